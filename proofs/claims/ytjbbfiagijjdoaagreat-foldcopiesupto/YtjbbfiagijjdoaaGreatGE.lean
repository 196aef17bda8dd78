/- Parts of the proof: what is used by the law. No condition. -/
import Derived.Test.YtjbbfiagijjdoaaGreatRows
import Derived.Test.YtjbbfiagijjdoaaGreatGD
set_option linter.unusedSimpArgs false
set_option linter.unusedVariables false
/- The law FoldSteps, walked. No condition. -/
set_option linter.unusedSimpArgs false
set_option linter.unusedVariables false
set_option maxRecDepth 10000
namespace Go.Proofs.YtjbbfiagijjdoaaGreat
open Go Go.Rw Go.Proofs
-- a goal is never to be run by the elaborator
attribute [local irreducible] awp aops aop aopsE aeff

theorem merge_from {a b : List PEntry} {x : PEntry} (h : x ∈ mergeE a b) : x ∈ a ∨ x ∈ b := by
  obtain ⟨_, h1, h2⟩ := mergeK_mem.1 h
  have key : ∀ c : List PEntry, x = findE c x.key → x ∈ c := fun c hc => by
    rw [findE_look] at hc
    cases hl : lookK keyE c x.key with
    | none => rw [hl] at hc; rw [hc] at h2; simp at h2
    | some y => rw [hl] at hc; simp at hc; rw [hc]; exact (look_some hl).1
  unfold newerE at h1
  split at h1
  · exact .inr (key b h1)
  · exact .inl (key a h1)
theorem fit_apply {n : Nat} {s : PState} (hs : OkT n s) {r : PRec} (hr : rightR r = true) (h : fitS s) (hf : fitR r) : fitS (applyS s r) := by
  intro x hx e he
  rw [look_mem (okN_apply hs.toOkN hr).sb, apply_books] at hx
  split at hx
  · obtain rfl := Option.some.inj hx
    rcases merge_from he with h1 | h1
    · rw [bookS_look hs.sb] at h1
      cases hl : lookK keyVB s.books (nameV r.view) with
      | none => rw [hl] at h1; simp at h1
      | some y => rw [hl] at h1; exact h y (look_some hl).1 e h1
    · simp at h1; rw [h1]; exact hf
  · exact h x (look_some hx).1 e he
theorem fit_fold {v : PView} (hv : rightV v = true) {l : List PRec} (hl : ∀ r ∈ l, rightR r = true) (hf : ∀ r ∈ l, fitR r) (k : Nat) (hk : k ≤ l.length) : fitS (foldS v (l.take k)) := by
  induction k with
  | zero => intro x hx; simp [foldS, newS] at hx
  | succ k ih =>
    have hx : l[k]? = some l[k] := List.getElem?_eq_getElem (by omega)
    rw [foldS_step hx]
    exact fit_apply (okT_fold hv hl k (by omega)) (hl _ (List.mem_of_getElem? hx)) (ih (by omega)) (hf _ (List.mem_of_getElem? hx))
def SpI (n : Nat) (v : PView) (l : List PRec) (r : PRec) (s t1 : PState) (b1 b2 b3 b4 : Nat) (t : Nat → AV) (h : Nat → Option (List AV)) : Prop := ∃ (k : Nat) (tg : Tag), t 1 = .sl .no (eRs l) ∧ t 3 = .ptr b1 0 ∧ t 5 = .ptr b2 0 ∧ t 7 = .ptr b3 0 ∧ t 8 = .ptr b4 0 ∧ t 9 = .sl tg (eRs (l ++ [r])) ∧ t 58 = eI n ∧ t 59 = eI k ∧ k ≤ n ∧ h b1 = some (eV v) ∧ h b2 = some (eRc r) ∧ h b3 = some (eSt s) ∧ h b4 = some (eSt t1)
def SpM (v : PView) (l : List PRec) (r : PRec) (s t1 : PState) (b1 b2 b3 b4 : Nat) (t : Nat → AV) (h : Nat → Option (List AV)) : Prop := ∃ tg : Tag, t 1 = .sl .no (eRs l) ∧ t 3 = .ptr b1 0 ∧ t 5 = .ptr b2 0 ∧ t 7 = .ptr b3 0 ∧ t 8 = .ptr b4 0 ∧ t 9 = .sl tg (eRs (l ++ [r])) ∧ h b1 = some (eV v) ∧ h b2 = some (eRc r) ∧ h b3 = some (eSt s) ∧ h b4 = some (eSt t1)
end Go.Proofs.YtjbbfiagijjdoaaGreat

/- The law FoldCopies, walked. No condition. -/
set_option linter.unusedSimpArgs false
set_option linter.unusedVariables false
set_option maxRecDepth 10000
namespace Go.Proofs.YtjbbfiagijjdoaaGreat
open Go Go.Rw Go.Proofs
-- a goal is never to be run by the elaborator
attribute [local irreducible] awp aops aop aopsE aeff

/-! what of one's own memory stays so, whatever is written -/
def ShE (κ : Nat → Nat) (h : Nat → Option (List AV)) (k sz : Nat) (Y : AV) : Prop := Y = .sl .no [] ∨ ∃ (b m cap : Nat) (cells : List AV), Y = .sm b 0 m cap ∧ κ b = k ∧ h b = some cells ∧ m ≤ cap ∧ cells.length = cap * sz
def ShB (κ : Nat → Nat) (h : Nat → Option (List AV)) (k1 k2 sz : Nat) (X : AV) (n : Nat) : Prop := (n = 0 ∧ X = .sl .no []) ∨ ∃ (b cap : Nat) (cells : List AV), X = .sm b 0 n cap ∧ κ b = k1 ∧ h b = some cells ∧ n ≤ cap ∧ cells.length = cap * 3 ∧
  ∀ i, i < n → ∃ Y, cells[i * 3 + 2]? = some Y ∧ ShE κ h k2 sz Y
def ShI (κ : Nat → Nat) (h : Nat → Option (List AV)) (X : AV) (n : Nat) : Prop := (n = 0 ∧ X = .sl .no []) ∨ ∃ (b cap : Nat) (cells : List AV), X = .sm b 0 n cap ∧ κ b = 5 ∧ h b = some cells ∧ n ≤ cap ∧ cells.length = cap * 4
def Alike (κ : Nat → Nat) (h h2 : Nat → Option (List AV)) : Prop := ∀ b c, h b = some c → ∃ d, h2 b = some d ∧ d.length = c.length ∧ (κ b = 0 → d = c) ∧ (κ b = 1 ∨ κ b = 3 → ∀ i, d[i * 3 + 2]? = c[i * 3 + 2]?)
theorem alike_upd {κ : Nat → Nat} {h : Nat → Option (List AV)} {b : Nat} {c d : List AV} (hb : h b = some c) (hl : d.length = c.length) (h0 : κ b ≠ 0) (h1 : κ b = 1 ∨ κ b = 3 → ∀ i, d[i * 3 + 2]? = c[i * 3 + 2]?) : Alike κ h (upd h b (some d)) := by
  intro b' c' hb'
  by_cases e : b' = b
  · subst e
    rw [hb] at hb'; cases hb'
    exact ⟨d, by simp [upd], hl, fun h => absurd h h0, h1⟩
  · exact ⟨c', by simp [upd, e, hb'], rfl, fun _ => rfl, fun _ _ => rfl⟩
theorem ShE.alike {κ : Nat → Nat} {h h2 : Nat → Option (List AV)} {k sz : Nat} {Y : AV} (hs : ShE κ h k sz Y) (ha : Alike κ h h2) : ShE κ h2 k sz Y := by
  rcases hs with hs | ⟨b, m, cap, cells, h1, h3, h4, h5, h6⟩
  · exact .inl hs
  · obtain ⟨d, e1, e2, _⟩ := ha b _ h4
    exact .inr ⟨b, m, cap, d, h1, h3, e1, h5, e2.trans h6⟩
theorem ShB.alike {κ : Nat → Nat} {h h2 : Nat → Option (List AV)} {k1 k2 sz n : Nat} {X : AV} (hk : k1 = 1 ∨ k1 = 3) (hs : ShB κ h k1 k2 sz X n) (ha : Alike κ h h2) : ShB κ h2 k1 k2 sz X n := by
  rcases hs with hs | ⟨b, cap, cells, h1, h3, h4, h5, h6, h7⟩
  · exact .inl hs
  · obtain ⟨d, e1, e2, _, e4⟩ := ha b _ h4
    refine .inr ⟨b, cap, d, h1, h3, e1, h5, e2.trans h6, fun i hi => ?_⟩
    obtain ⟨Y, f1, f2⟩ := h7 i hi
    exact ⟨Y, by rw [e4 (by rw [h3]; exact hk)]; exact f1, f2.alike ha⟩
theorem ShI.alike {κ : Nat → Nat} {h h2 : Nat → Option (List AV)} {n : Nat} {X : AV} (hs : ShI κ h X n) (ha : Alike κ h h2) : ShI κ h2 X n := by
  rcases hs with hs | ⟨b, cap, cells, h1, h3, h4, h5, h6⟩
  · exact .inl hs
  · obtain ⟨d, e1, e2, _⟩ := ha b _ h4
    exact .inr ⟨b, cap, d, h1, h3, e1, h5, e2.trans h6⟩
theorem own_she {κ : Nat → Nat} {k : Nat} {rows : List (List AV)} {sz : Nat} {X : AV} {h : Nat → Option (List AV)} (hx : OwnAt κ k rows sz X h) : ShE κ h k sz X := by
  rcases hx with ⟨_, h2⟩ | ⟨b, cap, cells, h1, h2, h3, h4, h5, _⟩
  · exact .inl h2
  · exact .inr ⟨b, _, cap, cells, h1, h2, h3, h4, h5⟩
theorem own_shi {κ : Nat → Nat} {rows : List (List AV)} {X : AV} {h : Nat → Option (List AV)} (hx : OwnAt κ 5 rows 4 X h) : ShI κ h X rows.length := by
  rcases hx with ⟨h1, h2⟩ | ⟨b, cap, cells, h1, h2, h3, h4, h5, _⟩
  · exact .inl ⟨by simp [h1], h2⟩
  · exact .inr ⟨b, cap, cells, h1, h2, h3, h4, h5⟩
theorem deep_shb {κ : Nat → Nat} {h : Nat → Option (List AV)} {k1 k2 sz : Nat} {X : AV} {l : List GItem} (hx : DeepG κ h k1 k2 sz X l l.length) : ShB κ h k1 k2 sz X l.length := by
  rcases hx with ⟨h1, h2⟩ | ⟨b, cap, cells, h1, h2, h3, h4, h5, h6⟩
  · exact .inl ⟨by simp [h1], h2⟩
  · refine .inr ⟨b, cap, cells, h1, h2, h3, h4, h5, fun i hi => ?_⟩
    obtain ⟨x, hx⟩ : ∃ x, l[i]? = some x := ⟨l[i], by simp [hi]⟩
    obtain ⟨_, _, Y, e1, e2⟩ := h6 i x hx
    rcases e2 with ⟨e2, _⟩ | ⟨_, e2⟩
    · omega
    · exact ⟨Y, e1, own_she e2⟩
structure CoB (v : PView) (l : List PRec) (s : PState) (b1 b2 b3 : Nat) (κ : Nat → Nat) (XB XC XI : AV) (t : Nat → AV) (h : Nat → Option (List AV)) : Prop where
  t1 : t 1 = .sl .no (eRs l)
  t2 : t 2 = .ptr b1 0
  t5 : t 5 = .ptr b2 0
  t6 : t 6 = .ptr b3 0
  h1 : h b1 = some (eV v)
  h2 : h b2 = some (eSt s)
  h3 : h b3 = some [XB, XC, XI, eI s.held.add, eI s.held.del, eI s.inc, eI s.last]
  k1 : κ b1 = 0
  k2 : κ b2 = 0
  k3 : κ b3 = 0
  sb : ShB κ h 1 2 4 XB s.books.length
  sc : ShB κ h 3 4 3 XC s.cells.length
  si : ShI κ h XI s.intents.length
theorem CoB.next {v : PView} {l : List PRec} {s : PState} {b1 b2 b3 : Nat} {κ : Nat → Nat} {XB XC XI : AV} {t t' : Nat → AV} {h h' : Nat → Option (List AV)} (hc : CoB v l s b1 b2 b3 κ XB XC XI t h) (ha : Alike κ h h') (e1 : t' 1 = t 1) (e2 : t' 2 = t 2) (e5 : t' 5 = t 5) (e6 : t' 6 = t 6) :
    CoB v l s b1 b2 b3 κ XB XC XI t' h' := by
  refine ⟨e1.trans hc.t1, e2.trans hc.t2, e5.trans hc.t5, e6.trans hc.t6, ?_, ?_, ?_, hc.k1, hc.k2, hc.k3, hc.sb.alike (.inl rfl) ha, hc.sc.alike (.inr rfl) ha, hc.si.alike ha⟩
  · obtain ⟨d, f1, _, f3, _⟩ := ha _ _ hc.h1; rw [f1, f3 hc.k1]
  · obtain ⟨d, f1, _, f3, _⟩ := ha _ _ hc.h2; rw [f1, f3 hc.k2]
  · obtain ⟨d, f1, _, f3, _⟩ := ha _ _ hc.h3; rw [f1, f3 hc.k3]
theorem alike_refl (κ : Nat → Nat) (h : Nat → Option (List AV)) : Alike κ h h := fun _ c hb => ⟨c, hb, rfl, fun _ => rfl, fun _ _ => rfl⟩
theorem copies12_law (v : PView) (l : List PRec) (hf : ∀ r ∈ l, fitR r) (hl : l.length ≤ 1048576) : ASpec Tryz.prog 16 [.agg (eV v), .sl .no (eRs l)] (· = .v (.bool true)) := by
  refine ASpec.of_awp Tryz.func16 (by kernel_rfl) rfl (by rw [Tryz.results16]) Tryz.ntmps16 ?_
  simp -implicitDefEqProofs [eV]
  refine allocK.intro (fun b1 hb1 => ?_)
  simp -implicitDefEqProofs
  refine CallK.eq alive12_spec ?_
  simp -implicitDefEqProofs
  intro _
  by_cases h60 : 60 < l.length
  · have h60' : (60 : Int) < (l.length : Int) := by omega
    simp -implicitDefEqProofs [h60, h60']
  have h60' : ¬ (60 : Int) < (l.length : Int) := by omega
  simp -implicitDefEqProofs [h60, h60']
  refine CallK.with (right12_spec v l hf (by omega)) (by simp [eV]) ?_
  cases hr : (l.all rightR && rightV v)
  · simp -implicitDefEqProofs
  obtain ⟨hr1, hv⟩ := right12_of hr
  have hfold := fold_spec v l hv hr1 (by omega)
  have hok := okT_fold hv hr1 l.length (Nat.le_refl _)
  have hfit := fit_fold hv hr1 hf l.length (Nat.le_refl _)
  rw [List.take_length] at hok hfit
  have hof := of12_spec v l hv hr1 (by omega)
  rw [state_eq hv hr1] at hof
  generalize foldS v l = s at *
  simp -implicitDefEqProofs
  refine CallK.with hfold (by simp [eV]) ?_
  simp -implicitDefEqProofs [eSt]
  refine allocK.intro (fun b2 hb2 => ?_)
  have n12 : ¬ b1 = b2 := by rintro rfl; simp at hb2
  have n21 : ¬ b2 = b1 := fun h => n12 h.symm
  simp -implicitDefEqProofs [n12, n21]
  refine CallK.mh (copySt_own s (hok.ok (by omega))) (by simp [eSt]) (fun _ _ h => by simp at h) ?_
  rintro r h' H hR hkp hnw hfr
  obtain ⟨XB, XC, XI, κ0, rfl, hD0⟩ := hR
  have g1 : H b1 = some (eV v) := hkp b1 _ rfl (by simp [n12, eV])
  have g2 : H b2 = some (eSt s) := hkp b2 _ rfl (by simp [n21, eSt])
  obtain ⟨κ, hκ⟩ : ∃ κ : Nat → Nat, κ = fun b => if (h' b).isSome then κ0 b else 0 := ⟨_, rfl⟩
  have hD : CpD s XB XC XI κ H s.books.length s.cells.length := by
    subst hκ
    exact ⟨hD0.b.frame fun b c hb _ => ⟨hnw b c hb, by simp [hb]⟩, hD0.c.frame fun b c hb _ => ⟨hnw b c hb, by simp [hb]⟩, hD0.i.frame fun b c hb hk => ⟨hnw b c hb, by simp [hb, hk]⟩⟩
  have k1 : κ b1 = 0 := by
    subst hκ
    cases hq : h' b1 with
    | none => simp [hq]
    | some q => have := hfr b1 q hq rfl; simp [n12] at this
  have k2 : κ b2 = 0 := by
    subst hκ
    cases hq : h' b2 with
    | none => simp [hq]
    | some q => have := hfr b2 q hq rfl; simp [n21] at this
  have k3 : ∀ b, H b = none → κ b = 0 := fun b hb => by
    subst hκ
    cases hq : h' b with
    | none => simp [hq]
    | some q => have := hnw b q hq; rw [hb] at this; simp at this
  clear hfr hnw hkp hκ hD0
  have vB := hD.b.v
  have vC := hD.c.v
  have vI := hD.i.v
  have vs : ∀ X, OwnV X → dead1 X = X ∧ cellAV X = true ∧ keepNil X = X := by
    rintro X (rfl | ⟨_, _, _, _, rfl⟩) <;> exact ⟨rfl, rfl, rfl⟩
  obtain ⟨dB, cB, kB⟩ := vs _ vB
  obtain ⟨dC, cC, kC⟩ := vs _ vC
  obtain ⟨dI, cI, kI⟩ := vs _ vI
  simp -implicitDefEqProofs [n12, n21, dB, cB, kB, dC, cC, kC, dI, cI, kI]
  refine allocK.intro (fun b3 hb3 => ?_)
  have n13 : ¬ b1 = b3 := by rintro rfl; rw [g1] at hb3; simp at hb3
  have n31 : ¬ b3 = b1 := fun h => n13 h.symm
  have n23 : ¬ b2 = b3 := by rintro rfl; rw [g2] at hb3; simp at hb3
  have n32 : ¬ b3 = b2 := fun h => n23 h.symm
  simp -implicitDefEqProofs [n12, n21, n13, n31, n23, n32, dB, cB, kB, dC, cC, kC, dI, cI, kI]
  rw [if_pos]
  rotate_left
  · refine ⟨?_, ?_, ?_⟩
    · rcases vB with rfl | ⟨_, _, _, _, rfl⟩ <;> rfl
    · rcases vC with rfl | ⟨_, _, _, _, rfl⟩ <;> rfl
    · rcases vI with rfl | ⟨_, _, _, _, rfl⟩ <;> rfl
  simp -implicitDefEqProofs [n12, n21, n13, n31, n23, n32, g1, g2, eSt, dB, kB, dC, kC, dI, kI]
  have ha : ∀ H2 : Nat → Option (List AV), (∀ b, ¬ b = b3 → H2 b = H b) → Alike κ H H2 := fun H2 hh b c hb => ⟨c, by
    have : ¬ b = b3 := by rintro rfl; rw [hb3] at hb; simp at hb
    rw [hh b this, hb], rfl, fun _ => rfl, fun _ _ => rfl⟩
  have hfz := cp_froz hD
  have hsb : ShB κ H 1 2 4 XB s.books.length := by have := deep_shb (l := s.books.map itB) (by simpa using hD.b); simpa using this
  have hsc : ShB κ H 3 4 3 XC s.cells.length := by have := deep_shb (l := s.cells.map itC) (by simpa using hD.c); simpa using this
  have hsi : ShI κ H XI s.intents.length := by have := own_shi hD.i; simpa [rowsVI] using this
  refine CallK.lendAll (args' := [.agg (eSt s), .agg (eSt s)]) (.cons (.struct ?_) (.cons ?_ .nil)) (foldsame_spec s s) (by rintro _ rfl; rfl) ?_
  · refine hfz.mono fun b c hb => ?_
    have : ¬ b = b3 := by rintro rfl; rw [hb3] at hb; simp at hb
    simp [upd, this, hb]
  · simp only [eSt, List.map_cons, List.map_nil, dead1_sl, eI, dead1_v]
    exact .same _
  rw [sameSt_self]
  rintro _ rfl
  simp -implicitDefEqProofs [n12, n21, n13, n31, n23, n32, g1, g2, eSt, dB, kB, dC, kC, dI, kI]
  obtain ⟨T1, hT1⟩ : ∃ T1 : (Nat → AV) → (Nat → Option (List AV)) → Prop, T1 = CoB v l s b1 b2 b3 κ XB XC XI := ⟨_, rfl⟩
  have hnb := (hok.ok (by omega) : OkS s).lb
  have hnc := (hok.ok (by omega) : OkS s).lc
  have hni := (hok.ok (by omega) : OkS s).li
  rcases (show ShB κ H 1 2 4 XB s.books.length from hsb) with ⟨h0, hX⟩ | ⟨bb, cap, cells, hX, q2, q3, q4, q5, q6⟩
  focus
    simp -implicitDefEqProofs [hX]
    refine loopK.post (fun t h => CoB v l s b1 b2 b3 κ XB XC XI t h ∧ t 34 = eI 0 ∧ t 35 = eI 0) (fun t => 0) T1 ⟨⟨by simp, by simp, by simp, by simp, by simp [n12, n13, g1], by simp [n23, g2], by simp [hX], k1, k2, k3 _ hb3, hsb.alike (.inl rfl) (ha _ fun b h => by simp [upd, h]), hsc.alike (.inr rfl) (ha _ fun b h => by simp [upd, h]), hsi.alike (ha _ fun b h => by simp [upd, h])⟩, by simp, by simp⟩ ?_ ?_
    focus
      rintro t h ⟨hB, h34, h35⟩
      simp -implicitDefEqProofs [h34, h35]
      rw [hT1]
      exact hB.next (alike_refl _ _) (by simp) (by simp) (by simp) (by simp)
  rotate_left
  focus
    simp -implicitDefEqProofs [hX]
    intro _
    refine loopK.post (fun t h => ∃ k : Nat, CoB v l s b1 b2 b3 κ XB XC XI t h ∧ t 34 = eI s.books.length ∧ t 35 = eI k ∧ k ≤ s.books.length) (fun t => s.books.length - natOf (t 35)) T1 ⟨0, ⟨by simp, by simp, by simp, by simp, by simp [n12, n13, g1], by simp [n23, g2], by simp [hX], k1, k2, k3 _ hb3, hsb.alike (.inl rfl) (ha _ fun b h => by simp [upd, h]), hsc.alike (.inr rfl) (ha _ fun b h => by simp [upd, h]), hsi.alike (ha _ fun b h => by simp [upd, h])⟩, by simp, by simp, by omega⟩ ?_ ?_
    focus
      clear hsb hsc hsi ha hfz q2 q3 q4 q5 q6 hD
      rintro t h ⟨k, hB, h34, h35, hk⟩
      simp -implicitDefEqProofs [h34, h35]
      refine branch_dec (fun hlt => ?_) (fun hlt => ?_)
      · have hlt : k < s.books.length := by omega
        rcases hB.sb with ⟨h0, _⟩ | ⟨b', cap', cells, hX', q2, q3, q4, q5, q6⟩
        · omega
        rw [hX] at hX'
        cases hX'
        obtain ⟨Y, e3, e4⟩ := q6 k hlt
        have t6 := hB.t6
        have h3 := hB.h3
        have hj1 : IntKind.i64.wrap ((k : Int) + 1) = (k : Int) + 1 := w64 (by omega) (by omega)
        have nb3 : ¬ bb = b3 := by rintro rfl; have := hB.k3; omega
        have nb3' : ¬ b3 = bb := fun h => nb3 h.symm
        obtain ⟨T2, hT2⟩ : ∃ T2 : (Nat → AV) → (Nat → Option (List AV)) → Prop, T2 = fun t h => CoB v l s b1 b2 b3 κ XB XC XI t h ∧ t 34 = eI s.books.length ∧ t 35 = eI k ∧ t 7 = eI k ∧ ∃ c, h bb = some c ∧ c.length = cap * 3 := ⟨_, rfl⟩
        rcases e4 with rfl | ⟨bi, m, capi, ci, rfl, p2, p3, p4, p5⟩
        focus
          simp -implicitDefEqProofs [t6, h3, hX, hlt, h35, q3, e3]
          refine loopK.post (fun t h => CoB v l s b1 b2 b3 κ XB XC XI t h ∧ t 34 = eI s.books.length ∧ t 35 = eI k ∧ t 7 = eI k ∧ t 44 = eI 0 ∧ t 45 = eI 0 ∧ ∃ c, h bb = some c ∧ c.length = cap * 3) (fun t => 0) T2 ⟨hB.next (alike_refl _ _) (by simp) (by simp) (by simp) (by simp), by simp [h34], by simp [h35], by simp, by simp, by simp, cells, q3, q5⟩ ?_ ?_
          focus
            rintro t h ⟨hB, h34, h35, h7, h44, h45, hc⟩
            simp -implicitDefEqProofs [h44, h45]
            rw [hT2]
            exact ⟨hB.next (alike_refl _ _) (by simp) (by simp) (by simp) (by simp), by simp [h34], by simp [h35], by simp [h7], hc⟩
        rotate_left
        focus
          have nbi : ¬ bi = bb := by rintro rfl; omega
          have nbi' : ¬ bb = bi := fun h => nbi h.symm
          have nbi3 : ¬ bi = b3 := by rintro rfl; have := hB.k3; omega
          have nbi3' : ¬ b3 = bi := fun h => nbi3 h.symm
          simp -implicitDefEqProofs [t6, h3, hX, hlt, h35, q3, e3]
          intro hm
          refine loopK.post (fun t h => ∃ j : Nat, CoB v l s b1 b2 b3 κ XB XC XI t h ∧ t 34 = eI s.books.length ∧ t 35 = eI k ∧ t 7 = eI k ∧ t 44 = eI m ∧ t 45 = eI j ∧ j ≤ m ∧ (∃ c, h bb = some c ∧ c.length = cap * 3 ∧ c[k * 3 + 2]? = some (.sm bi 0 m capi)) ∧ ∃ c, h bi = some c ∧ c.length = capi * 4) (fun t => m - natOf (t 45)) T2
            ⟨0, hB.next (alike_refl _ _) (by simp) (by simp) (by simp) (by simp), by simp [h34], by simp [h35], by simp, by simp, by simp, by omega, ⟨cells, q3, q5, e3⟩, ci, p3, p5⟩ ?_ ?_
          focus
            clear hB h34 h35 t6 h3 q3 q5 q6 e3 p3 p5
            rintro t h ⟨j, hB, h34, h35, h7, h44, h45, hj, ⟨c, q3, q5, e3⟩, ci, p3, p5⟩
            simp -implicitDefEqProofs [h44, h45]
            refine branch_dec (fun hlj => ?_) (fun hlj => ?_)
            · have hlj : j < m := by omega
              have t6 := hB.t6
              have h3 := hB.h3
              have hj2 : IntKind.i64.wrap ((j : Int) + 1) = (j : Int) + 1 := w64 (by omega) (by omega)
              have hB9 := hB
              rw [hX] at hB9
              simp -implicitDefEqProofs [t6, h3, hX, h7, h45, q3, e3, hlt, hlj, p3, nbi, nbi3, nbi', nbi3', hj2]
              refine ⟨by omega, ⟨hB9.next (alike_upd p3 (by rw [lay_one _ _ _ (by omega)]; simp) (by omega) (fun h => by omega)) (by simp) (by simp) (by simp) (by simp), h34, h35, h44, j + 1, by omega, by omega, q5, by omega⟩, by omega⟩
            · have hjm : j = m := by omega
              subst hjm
              simp -implicitDefEqProofs [h44, h45]
              rw [hT2]
              exact ⟨hB.next (alike_refl _ _) (by simp) (by simp) (by simp) (by simp), by simp [h34], by simp [h35], by simp [h7], c, q3, q5⟩
        all_goals
          rw [hT2]
          have hnat : natOf (t 35) = k := by rw [h35]; simp [natOf, eI]
          clear hB h34 h35 t6 h3 q3 q5 q6 e3
          rintro t h ⟨hB, h34, h35, h7, c, q3, q5⟩
          have t6 := hB.t6
          have h3 := hB.h3
          have hB9 := hB
          rw [hX] at hB9
          simp -implicitDefEqProofs [t6, h3, hX, h7, h35, q3, hlt, nb3, nb3', hj1]
          refine ⟨by omega, ⟨hB9.next (alike_upd q3 (by rw [lay_one _ _ _ (by omega)]; simp) (by omega) (fun h i => by rw [lay_one _ _ _ (by omega), List.getElem?_set_ne (by omega)])) (by simp) (by simp) (by simp) (by simp), h34, k + 1, by omega, by omega⟩, by omega⟩
      · have hkn : k = s.books.length := by omega
        subst hkn
        simp -implicitDefEqProofs [h34, h35]
        rw [hT1]
        exact hB.next (alike_refl _ _) (by simp) (by simp) (by simp) (by simp)
  all_goals
    rw [hT1]
    clear hsb hsc hsi ha hfz hD hX
    clear hT1 T1
    rintro t h hC
    refine awp_cutK (CoB v l s b1 b2 b3 κ XB XC XI) ?_ ?_
    · rcases (show ShB κ h 3 4 3 XC s.cells.length from hC.sc) with ⟨h0, hX⟩ | ⟨bb, cap, cells, hX, q2, q3, q4, q5, q6⟩
      · have t6 := hC.t6
        have h3 := hC.h3
        have hC9 := hC
        rw [hX] at hC9
        simp -implicitDefEqProofs [t6, h3, hX]
        refine loopK.intro (fun t h => CoB v l s b1 b2 b3 κ XB XC XI t h ∧ t 67 = eI 0 ∧ t 68 = eI 0) (fun t => 0) ⟨hC.next (alike_refl _ _) (by simp) (by simp) (by simp) (by simp), by simp, by simp⟩ ?_
        rintro t h ⟨hB, h67, h68⟩
        simp -implicitDefEqProofs [h67, h68]
        try rw [← hX]
        exact hB.next (alike_refl _ _) (by simp) (by simp) (by simp) (by simp)
      · have t6 := hC.t6
        have h3 := hC.h3
        simp -implicitDefEqProofs [t6, h3, hX]
        intro _
        refine loopK.intro (fun t h => ∃ k : Nat, CoB v l s b1 b2 b3 κ XB XC XI t h ∧ t 67 = eI s.cells.length ∧ t 68 = eI k ∧ k ≤ s.cells.length) (fun t => s.cells.length - natOf (t 68)) ⟨0, hC.next (alike_refl _ _) (by simp) (by simp) (by simp) (by simp), by simp, by simp, by omega⟩ ?_
        clear hC t6 h3 q2 q3 q4 q5 q6
        rintro t h ⟨k, hB, h34, h35, hk⟩
        simp -implicitDefEqProofs [h34, h35]
        refine branch_dec (fun hlt => ?_) (fun hlt => ?_)
        · have hlt : k < s.cells.length := by omega
          rcases hB.sc with ⟨h0, _⟩ | ⟨b', cap', cells, hX', q2, q3, q4, q5, q6⟩
          · omega
          rw [hX] at hX'
          cases hX'
          obtain ⟨Y, e3, e4⟩ := q6 k hlt
          have t6 := hB.t6
          have h3 := hB.h3
          have hj1 : IntKind.i64.wrap ((k : Int) + 1) = (k : Int) + 1 := w64 (by omega) (by omega)
          have nb3 : ¬ bb = b3 := by rintro rfl; have := hB.k3; omega
          have nb3' : ¬ b3 = bb := fun h => nb3 h.symm
          have hnat : natOf (t 68) = k := by rw [h35]; simp [natOf, eI]
          rcases e4 with rfl | ⟨bi, m, capi, ci, rfl, p2, p3, p4, p5⟩
          · simp -implicitDefEqProofs [t6, h3, hX, hlt, h35, q3, e3]
            refine loopK.intro (fun t h => CoB v l s b1 b2 b3 κ XB XC XI t h ∧ t 67 = eI s.cells.length ∧ t 68 = eI k ∧ t 77 = eI 0 ∧ t 78 = eI 0) (fun t => 0) ⟨hB.next (alike_refl _ _) (by simp) (by simp) (by simp) (by simp), by simp [h34], by simp [h35], by simp, by simp⟩ ?_
            rintro t h ⟨hB, h34, h35, h44, h45⟩
            simp -implicitDefEqProofs [h44, h45, h35, hj1]
            try rw [← hX]
            exact ⟨⟨hB.next (alike_refl _ _) (by simp) (by simp) (by simp) (by simp), by simp [h34], k + 1, by omega, by omega⟩, by omega⟩
          · have nbi : ¬ bi = bb := by rintro rfl; omega
            have nbi' : ¬ bb = bi := fun h => nbi h.symm
            have nbi3 : ¬ bi = b3 := by rintro rfl; have := hB.k3; omega
            have nbi3' : ¬ b3 = bi := fun h => nbi3 h.symm
            simp -implicitDefEqProofs [t6, h3, hX, hlt, h35, q3, e3]
            intro hm
            refine loopK.intro (fun t h => ∃ j : Nat, CoB v l s b1 b2 b3 κ XB XC XI t h ∧ t 67 = eI s.cells.length ∧ t 68 = eI k ∧ t 9 = eI k ∧ t 77 = eI m ∧ t 78 = eI j ∧ j ≤ m ∧ (∃ c, h bb = some c ∧ c.length = cap * 3 ∧ c[k * 3 + 2]? = some (.sm bi 0 m capi)) ∧ ∃ c, h bi = some c ∧ c.length = capi * 3) (fun t => m - natOf (t 78))
              ⟨0, hB.next (alike_refl _ _) (by simp) (by simp) (by simp) (by simp), by simp [h34], by simp [h35], by simp, by simp, by simp, by omega, ⟨cells, q3, q5, e3⟩, ci, p3, p5⟩ ?_
            clear hB h34 h35 t6 h3 q3 q5 q6 e3 p3 p5
            rintro t h ⟨j, hB, h34, h35, h7, h44, h45, hj, ⟨c, q3, q5, e3⟩, ci, p3, p5⟩
            simp -implicitDefEqProofs [h44, h45]
            refine branch_dec (fun hlj => ?_) (fun hlj => ?_)
            · have hlj : j < m := by omega
              have t6 := hB.t6
              have h3 := hB.h3
              have hj2 : IntKind.i64.wrap ((j : Int) + 1) = (j : Int) + 1 := w64 (by omega) (by omega)
              have hB9 := hB
              rw [hX] at hB9
              simp -implicitDefEqProofs [t6, h3, hX, h7, h45, q3, e3, hlt, hlj, p3, nbi, nbi3, nbi', nbi3', hj2]
              refine ⟨by omega, ⟨hB9.next (alike_upd p3 (by rw [lay_one _ _ _ (by omega)]; simp) (by omega) (fun h => by omega)) (by simp) (by simp) (by simp) (by simp), h34, h35, h44, j + 1, by omega, by omega, q5, by omega⟩, by omega⟩
            · have hjm : j = m := by omega
              subst hjm
              simp -implicitDefEqProofs [h44, h45, h35, hj1]
              try rw [← hX]
              exact ⟨⟨hB.next (alike_refl _ _) (by simp) (by simp) (by simp) (by simp), by simp [h34], k + 1, by omega, by omega⟩, by omega⟩
        · have hkn : k = s.cells.length := by omega
          subst hkn
          simp -implicitDefEqProofs [h34, h35]
          try rw [← hX]
          exact hB.next (alike_refl _ _) (by simp) (by simp) (by simp) (by simp)
    clear hC
    rintro t h hC
    refine awp_cutK (CoB v l s b1 b2 b3 κ XB XC XI) ?_ ?_
    · rcases (show ShI κ h XI s.intents.length from hC.si) with ⟨h0, hX⟩ | ⟨bb, cap, cells, hX, q2, q3, q4, q5⟩
      · have t6 := hC.t6
        have h3 := hC.h3
        simp -implicitDefEqProofs [t6, h3, hX]
        refine loopK.intro (fun t h => CoB v l s b1 b2 b3 κ XB XC XI t h ∧ t 94 = eI 0 ∧ t 95 = eI 0) (fun t => 0) ⟨hC.next (alike_refl _ _) (by simp) (by simp) (by simp) (by simp), by simp, by simp⟩ ?_
        rintro t h ⟨hB, h67, h68⟩
        simp -implicitDefEqProofs [h67, h68]
        try rw [← hX]
        exact hB.next (alike_refl _ _) (by simp) (by simp) (by simp) (by simp)
      · have t6 := hC.t6
        have h3 := hC.h3
        simp -implicitDefEqProofs [t6, h3, hX]
        intro _
        refine loopK.intro (fun t h => ∃ k : Nat, CoB v l s b1 b2 b3 κ XB XC XI t h ∧ t 94 = eI s.intents.length ∧ t 95 = eI k ∧ k ≤ s.intents.length) (fun t => s.intents.length - natOf (t 95)) ⟨0, hC.next (alike_refl _ _) (by simp) (by simp) (by simp) (by simp), by simp, by simp, by omega⟩ ?_
        clear hC t6 h3 q2 q3 q4 q5
        rintro t h ⟨k, hB, h34, h35, hk⟩
        simp -implicitDefEqProofs [h34, h35]
        refine branch_dec (fun hlt => ?_) (fun hlt => ?_)
        · have hlt : k < s.intents.length := by omega
          rcases hB.si with ⟨h0, _⟩ | ⟨b', cap', cells, hX', q2, q3, q4, q5⟩
          · omega
          rw [hX] at hX'
          cases hX'
          have t6 := hB.t6
          have h3 := hB.h3
          have hj1 : IntKind.i64.wrap ((k : Int) + 1) = (k : Int) + 1 := w64 (by omega) (by omega)
          have nb3 : ¬ bb = b3 := by rintro rfl; have := hB.k3; omega
          have nb3' : ¬ b3 = bb := fun h => nb3 h.symm
          have hB9 := hB
          rw [hX] at hB9
          simp -implicitDefEqProofs [t6, h3, hX, hlt, h35, q3, nb3, nb3', hj1]
          refine ⟨by omega, ⟨hB9.next (alike_upd q3 (by rw [lay_one _ _ _ (by omega)]; simp) (by omega) (fun h => by omega)) (by simp) (by simp) (by simp) (by simp), h34, k + 1, by omega, by omega⟩, by omega⟩
        · have hkn : k = s.intents.length := by omega
          subst hkn
          simp -implicitDefEqProofs [h34, h35]
          try rw [← hX]
          exact hB.next (alike_refl _ _) (by simp) (by simp) (by simp) (by simp)
    clear hC
    rintro t h hC
    have t1 := hC.t1
    have t2 := hC.t2
    have t5 := hC.t5
    have h1 := hC.h1
    have h2 := hC.h2
    rw [eSt] at h2
    rw [eV] at h1
    simp -implicitDefEqProofs [t1, t2, t5, h1, h2]
    refine regionK.intro 6 follows_mixed (by kernel_rfl) ?_
    simp -implicitDefEqProofs [t1, t2, t5, h1, h2]
    refine CallQ.with hof (by simp [eV]) ?_
    simp -implicitDefEqProofs [t1, t2, t5, h1, h2, eSt]
    refine CallQ.with (same12_spec s s hfit hfit) (by simp [eSt]) ?_
    rw [sameSt_self]
    simp -implicitDefEqProofs [t1, t2, t5, h1, h2]
    done
end Go.Proofs.YtjbbfiagijjdoaaGreat

/- Arguments of the laws on messages, read as plain data. No condition. -/
set_option linter.unusedSimpArgs false
set_option linter.unusedVariables false
set_option maxRecDepth 10000
namespace Go.Proofs.YtjbbfiagijjdoaaGreat
open Go Go.Rw Go.Proofs

theorem own : ownKnob Tryz.prog.godebug = none := by kernel_rfl
theorem laidOut : laidOutB Tryz.prog = true := by kernel_rfl

theorem bulkAll_sum {H : Type} : ∀ l : List (DataW H), Rows.uptoBulkAll l = (l.map Rows.uptoBulk).sum
  | [] => by simp [Rows.uptoBulkAll]
  | d :: l => by simp [Rows.uptoBulkAll, bulkAll_sum l]
theorem bulkOK {H : Type} : BulkOK (Rows.uptoBulk (H := H)) where
  one := fun d => by
    cases d with
    | lit l => cases l <;> simp [Rows.uptoBulk]
    | nil => simp [Rows.uptoBulk]
    | ptr d => simp [Rows.uptoBulk]
    | slice elems spare => simp [Rows.uptoBulk]
    | agg parts => simp [Rows.uptoBulk]
    | iface t d => simp [Rows.uptoBulk]
    | map entries => simp [Rows.uptoBulk]
    | held h => simp [Rows.uptoBulk]
  slice := fun e s => by simp only [Rows.uptoBulk, bulkAll_sum]; omega
  agg := fun p => by simp only [Rows.uptoBulk, bulkAll_sum]; omega
theorem bulk_of {H : Type} {l : List (DataW H)} (hk : Rows.uptoSmall H l = true) : Rows.uptoBulkAll l ≤ 1048576 := of_decide_eq_true hk

section
variable {H : Type} {enc0 : TypeId × Value → H} {W : World}
def inI (n : Int) : Prop := -9223372036854775808 ≤ n ∧ n ≤ 9223372036854775807
theorem reads_int : Reads Tryz.prog Rows.uptoBulk enc0 W 3 (fun n : Int => [eI n]) (fun n _ => inI n) := Reads.int Tryz.underlying3
theorem reads_f64 : Reads Tryz.prog Rows.uptoBulk enc0 W 44 (fun n : Nat => [AV.v (.float .f64 n)]) (fun n _ => n < 18446744073709551616) := Reads.float Tryz.underlying44
theorem reads_view : Reads Tryz.prog Rows.uptoBulk enc0 W 24 eV (fun v _ => inI v.add ∧ inI v.del) :=
  (Reads.struct bulkOK Tryz.underlying24 (by kernel_rfl) (.cons (sz := 1) rfl (by kernel_rfl) reads_int (.cons (sz := 1) rfl (by kernel_rfl) reads_int .nil)) (fun _ _ _ ⟨m, k, h1, h2⟩ _ => ⟨m, k, by omega, h2⟩)).weaken (β := PView)
    (fun p => ⟨p.1, p.2.1⟩) (fun p => rfl) (fun p n ⟨m, k, _, h1, m', k', _, h2, _⟩ => ⟨h1, h2⟩)
theorem reads_tag : Reads Tryz.prog Rows.uptoBulk enc0 W 43 eT (fun v _ => inI v.num ∧ inI v.node) :=
  (Reads.struct bulkOK Tryz.underlying43 (by kernel_rfl) (.cons (sz := 1) rfl (by kernel_rfl) reads_int (.cons (sz := 1) rfl (by kernel_rfl) reads_int .nil)) (fun _ _ _ ⟨m, k, h1, h2⟩ _ => ⟨m, k, by omega, h2⟩)).weaken (β := PTag)
    (fun p => ⟨p.1, p.2.1⟩) (fun p => rfl) (fun p n ⟨m, k, _, h1, m', k', _, h2, _⟩ => ⟨h1, h2⟩)
def goodC (c : PCell) (_ : Nat) : Prop := inI c.node ∧ inI c.change.add ∧ inI c.change.del
theorem reads_cell : Reads Tryz.prog Rows.uptoBulk enc0 W 48 eC goodC :=
  (Reads.struct bulkOK Tryz.underlying48 (by kernel_rfl) (.cons (sz := 1) rfl (by kernel_rfl) reads_int (.cons (sz := 2) rfl (by kernel_rfl) reads_view .nil)) (fun _ _ _ ⟨m, k, h1, h2⟩ _ => ⟨m, k, by omega, h2⟩)).weaken (β := PCell)
    (fun p => ⟨p.1, p.2.1⟩) (fun p => rfl) (fun p n ⟨m, k, _, h1, m', k', _, h2, _⟩ => ⟨h1, h2⟩)
def goodE (x : PEntry) (_ : Nat) : Prop := inI x.key ∧ (inI x.tag.num ∧ inI x.tag.node) ∧ x.value < 18446744073709551616
theorem reads_entry : Reads Tryz.prog Rows.uptoBulk enc0 W 46 eE goodE :=
  (Reads.struct bulkOK Tryz.underlying46 (by kernel_rfl) (.cons (sz := 1) rfl (by kernel_rfl) reads_int (.cons (sz := 2) rfl (by kernel_rfl) reads_tag (.cons (sz := 1) rfl (by kernel_rfl) reads_f64 .nil))) (fun _ _ _ ⟨m, k, h1, h2⟩ _ => ⟨m, k, by omega, h2⟩)).weaken (β := PEntry)
    (fun p => ⟨p.1, p.2.1, p.2.2.1⟩) (fun p => rfl) (fun p n ⟨m, k, _, h1, m', k', _, h2, m2, k2, _, h3, _⟩ => ⟨h1, h2, h3⟩)
structure GoodM (m : PMsg) (n : Nat) : Prop where
  kind : inI m.kind
  frm : inI m.frm
  to : inI m.to
  inc : inI m.inc
  seq : inI m.seq
  view : inI m.view.add ∧ inI m.view.del
  lists : ∃ a b, a + b ≤ n ∧ Goods goodC m.cells a ∧ Goods goodE m.book b
theorem GoodM.fit {m : PMsg} {n : Nat} (h : GoodM m n) : ∀ x ∈ m.book, x.value < 18446744073709551616 := by
  obtain ⟨a, b, h1, h2, h3⟩ := h.lists
  intro x hx
  obtain ⟨_, _, h4⟩ := h3.mem x hx
  exact h4.2.2

def zeroMsg : Value := .agg #[.int .i64 0, .int .i64 0, .int .i64 0, .int .i64 0, .int .i64 0, .int .i64 0, .int .i64 0, .slice none 0 0, .slice none 0 0]
def z0 : DataW H := .lit (.int .i64 0)
def zeroMsgD : DataW H := .agg [z0, z0, z0, z0, z0, .agg [z0, z0], .nil, .nil]
theorem reps_two {I : Imm} {x1 x2 : AV} {y1 y2 : Value} (h1 : Rep I x1 y1) (h2 : Rep I x2 y2) : Reps I [x1, x2] [y1, y2] := cell_reps (reps_one h1) [x2] [y2] (reps_one h2)
/-- an argument that is a struct -/
theorem arg_agg {t : TypeId} {fs : Array Field} {α : Type} {enc : α → List AV} {good : α → Nat → Prop} (hr : Reads Tryz.prog Rows.uptoBulk enc0 W t enc good) (ht : Tryz.prog.underlying t = some (.struct fs)) {v : Value} {d : DataW H} {p : List MemPlace} {base : Nat}
    (hok : Value.okWide Tryz.prog W .any base t v) (h : DataW.Trod enc0 Tryz.prog W 0 (fun _ => true) true t v d p) (hb : Rows.uptoBulk d ≤ 1048576) : ∃ a, Rep (allI W) (.agg (enc a)) v ∧ good a (Rows.uptoBulk d) := by
  simp only [Value.okWide, ht] at hok
  obtain ⟨cs, rfl, _, _⟩ := hok
  obtain ⟨fuel, hf⟩ := h
  obtain ⟨a, h1, h2⟩ := hr fuel _ _ hf (show Rows.uptoBulk d ≤ 281474976710656 by omega)
  refine ⟨a, ?_, h2⟩
  have : cs = (Value.agg cs).cells.toList.toArray := by simp [Value.cells]
  conv => rhs; rw [this]
  exact .agg _ h1.1 h1.2
/-- an argument of one cell -/
theorem arg_one {t : TypeId} {α : Type} {enc : α → AV} {good : α → Nat → Prop} (hr : Reads Tryz.prog Rows.uptoBulk enc0 W t (fun a => [enc a]) good) {v : Value} {d : DataW H} {p : List MemPlace}
    (hv : v.cells.toList = [v]) (h : DataW.Trod enc0 Tryz.prog W 0 (fun _ => true) true t v d p) (hb : Rows.uptoBulk d ≤ 1048576) : ∃ a, Rep (allI W) (enc a) v ∧ good a (Rows.uptoBulk d) := by
  obtain ⟨fuel, hf⟩ := h
  obtain ⟨a, h1, h2⟩ := hr fuel _ _ hf (show Rows.uptoBulk d ≤ 281474976710656 by omega)
  rw [hv] at h1
  exact ⟨a, h1.2 0 _ _ rfl rfl, h2⟩
/-- a value that is no struct is one cell -/
theorem one_cell {t : TypeId} {u : TypeDesc} (ht : Tryz.prog.underlying t = some u) (h1 : ∀ fs, u ≠ .struct fs) (h2 : ∀ n e, u ≠ .array n e) {v : Value} {base : Nat} (hok : Value.okWide Tryz.prog W .any base t v) : v.cells.toList = [v] := by
  unfold Value.okWide at hok
  rw [ht] at hok
  have hcell : Cell.okWide Tryz.prog W .any base t v := by
    cases u <;> first | exact hok | exact absurd rfl (h1 _) | exact absurd rfl (h2 _ _)
  cases v with
  | agg cs =>
    unfold Cell.okWide at hcell
    rw [ht] at hcell
    cases u <;> simp [Cell.ok, ht] at hcell
  | _ => rfl
end
end Go.Proofs.YtjbbfiagijjdoaaGreat

/- Arguments of the laws on records, read as plain data. No condition. -/
set_option linter.unusedSimpArgs false
set_option linter.unusedVariables false
set_option maxRecDepth 10000
namespace Go.Proofs.YtjbbfiagijjdoaaGreat
open Go Go.Rw Go.Proofs

section
variable {H : Type} {enc0 : TypeId × Value → H} {W : World}
def goodR (r : PRec) (_ : Nat) : Prop := inI r.kind ∧ (inI r.view.add ∧ inI r.view.del) ∧ goodC r.cell 0 ∧ goodE r.entry 0 ∧ inI r.n
theorem goodR.fit {r : PRec} {n : Nat} (h : goodR r n) : fitR r := h.2.2.2.1.2.2
set_option maxHeartbeats 2000000 in
theorem reads_rec : Reads Tryz.prog Rows.uptoBulk enc0 W 66 eRc goodR :=
  (Reads.struct bulkOK Tryz.underlying66 (by kernel_rfl) (.cons (sz := 1) rfl (by kernel_rfl) reads_int (.cons (sz := 2) rfl (by kernel_rfl) reads_view (.cons (sz := 3) rfl (by kernel_rfl) reads_cell (.cons (sz := 4) rfl (by kernel_rfl) reads_entry (.cons (sz := 1) rfl (by kernel_rfl) reads_int .nil))))) (fun _ _ _ ⟨m, k, h1, h2⟩ _ => ⟨m, k, by omega, h2⟩)).weaken (β := PRec)
    (fun p => ⟨p.1, p.2.1, p.2.2.1, p.2.2.2.1, p.2.2.2.2.1⟩) (fun p => rfl)
    (fun p n ⟨_, _, _, h1, _, _, _, h2, _, _, _, h3, _, _, _, h4, _, _, _, h5, _⟩ => ⟨h1, h2, h3, h4, h5⟩)
theorem reads_recs : Reads Tryz.prog Rows.uptoBulk enc0 W 22 (fun l : List PRec => [AV.sl .no (eRs l)]) (fun l n => Goods goodR l n) :=
  Reads.slice (sz := 11) bulkOK Tryz.underlying22 (by kernel_rfl) (by omega) reads_rec (by intro a x hx; simp [eRc] at hx; rcases hx with rfl | rfl | rfl | rfl | rfl | rfl | rfl | rfl | rfl | rfl | rfl <;> rfl)
theorem goods_fits {l : List PRec} {n : Nat} (h : Goods goodR l n) : ∀ r ∈ l, fitR r := fun r hr => by
  obtain ⟨_, _, h2⟩ := h.mem r hr
  exact h2.fit
def zeroRec : Value := .agg #[.int .i64 0, .int .i64 0, .int .i64 0, .int .i64 0, .int .i64 0, .int .i64 0, .int .i64 0, .int .i64 0, .int .i64 0, .float .f64 0, .int .i64 0]
def zeroRecD : DataW H := .agg [z0, .agg [z0, z0], .agg [z0, .agg [z0, z0]], .agg [z0, .agg [z0, z0], .lit (.float .f64 0)], z0]
end
end Go.Proofs.YtjbbfiagijjdoaaGreat
