/- Parts of the proof: what is used by the law. No condition. -/
import Derived.Test.YtjbbfiagijjdoaaGreatRwJ
set_option linter.unusedSimpArgs false
set_option linter.unusedVariables false
/- Slices of one's own: they grow, are copied over, are made. No condition. -/
set_option linter.unusedSimpArgs false
set_option linter.unusedVariables false
namespace Go.Rw
section
variable {B : Nat} {F : Nat → Prop} {w0 : World} {I0 : Imm} {s : ASt} {G : Ghost} {a : Act} {w : World} {P : Program}

/-- objects may be forgotten, and the right to write in their cells -/
theorem Rel.weaken (r : Rel B F w0 I0 s G a w) (h' : Nat → Option (List AV))
    (hs : ∀ b c, h' b = some c → ∃ c0, s.h b = some c0 ∧ c.length = c0.length ∧ ∀ (j : Nat) (x : AV), c[j]? = some x → ∃ x0, c0[j]? = some x0 ∧ (x = x0 ∨ x = dead1 x0)) :
    Rel B F w0 I0 { s with h := h' } G a w := by
  refine ⟨⟨r.hrel.imm, fun b' cells hb => ?_, r.hrel.excl, r.hrel.own⟩, r.size, r.tmps, r.defers, r.below, r.base, r.ownB, r.immB, r.sub0, r.calm⟩
  obtain ⟨cells0, hb0, hl0, hx0⟩ := hs b' cells hb
  obtain ⟨h1, arr, T, h2, h3, h4⟩ := r.hrel.obj b' cells0 hb0
  refine ⟨h1, arr, T, h2, by rw [h3, hl0], fun j x y hx hy => ?_⟩
  obtain ⟨x0, hx0', rfl | rfl⟩ := hx0 j x hx
  · exact h4 j x y hx0' hy
  · exact ⟨(h4 j x0 y hx0' hy).1.dead, LiveOK.dead _ _⟩

theorem flatten_length {α : Type} {rows : List (List α)} {sz : Nat} (h : ∀ r ∈ rows, r.length = sz) : rows.flatten.length = rows.length * sz := by
  induction rows with
  | nil => simp
  | cons r0 rest ih => rw [List.flatten_cons, List.length_append, ih (fun r hr => h r (by simp [hr])), h r0 (by simp), List.length_cons, Nat.add_mul]; omega

theorem flatten_get {α : Type} {rows : List (List α)} {sz : Nat} (hs : ∀ r ∈ rows, r.length = sz) {k : Nat} {x : α} (hk : rows.flatten[k]? = some x) : ∃ r, rows[k / sz]? = some r ∧ r[k % sz]? = some x ∧ k / sz * sz + k % sz = k := by
  have e1 : k / sz * sz + k % sz = k := by have := Nat.div_add_mod k sz; rw [Nat.mul_comm] at this; exact this
  induction rows generalizing k with
  | nil => simp at hk
  | cons r0 rest ih =>
    have h0 := hs r0 (by simp)
    rw [List.flatten_cons, List.getElem?_append] at hk
    split at hk
    · rename_i hlt
      rw [h0] at hlt
      refine ⟨r0, by rw [Nat.div_eq_of_lt hlt]; rfl, by rw [Nat.mod_eq_of_lt hlt]; exact hk, e1⟩
    · rename_i hge
      rw [h0] at hge hk
      have hpos : 0 < sz := by
        rcases Nat.eq_zero_or_pos sz with hz | hz
        · have h1 := lt_of_getElem?' hk
          rw [flatten_length (sz := sz) (fun r hr => hs r (by simp [hr])), hz] at h1
          simp at h1
        · exact hz
      have e2 : (k - sz) / sz * sz + (k - sz) % sz = k - sz := by have := Nat.div_add_mod (k - sz) sz; rw [Nat.mul_comm] at this; exact this
      obtain ⟨r, h1, h2, _⟩ := ih (fun r hr => hs r (by simp [hr])) hk e2
      have hge' : sz ≤ k := by omega
      have hd : k / sz = (k - sz) / sz + 1 := by rw [Nat.div_eq_sub_div hpos hge']
      have hm : k % sz = (k - sz) % sz := by rw [Nat.mod_eq_sub_mod hge']
      exact ⟨r, by rw [hd]; simpa using h1, by rw [hm]; exact h2, e1⟩
where
  lt_of_getElem?' {α : Type} {l : List α} {i : Nat} {x : α} (h : l[i]? = some x) : i < l.length := lt_of_get h

/-- rows as cells, one behind the other -/
theorem Rows.cells {I : Imm} {rows : List (List AV)} {sz : Nat} {cs : List Value} (h : Rows I rows sz cs) : CR I (rows.flatten.map dead1) cs.toArray := by
  have hall : ∀ r ∈ rows, r.length = sz := fun r hr => by
    obtain ⟨i, hi, rfl⟩ := List.getElem_of_mem hr
    exact h.each i rows[i] (by simp [hi])
  refine ⟨by rw [List.length_map, flatten_length hall, List.size_toArray, h.len], fun j x y hx hy => ?_⟩
  rw [List.getElem?_map] at hx
  cases hz : rows.flatten[j]? with
  | none => simp [hz] at hx
  | some z =>
    simp [hz] at hx; subst hx
    obtain ⟨r, h1, h2, h3⟩ := flatten_get hall hz
    obtain ⟨v, hv, hrep⟩ := h.rep _ r _ z h1 h2
    rw [h3] at hv
    simp only [List.getElem?_toArray] at hy
    rw [hv] at hy
    obtain rfl := Option.some.inj hy
    exact hrep.dead

theorem CR.append {I : Imm} {c d : List AV} {u v : List Value} (h : CR I c u.toArray) (h' : CR I d v.toArray) : CR I (c ++ d) (u ++ v).toArray := by
  have h1 : c.length = u.length := by simpa using h.1
  have h2 : d.length = v.length := by simpa using h'.1
  refine ⟨by simp [h1, h2], fun j x y hx hy => ?_⟩
  simp only [List.getElem?_toArray] at hy
  rw [List.getElem?_append] at hx hy
  rw [← h1] at hy
  split at hx
  · rename_i hl; rw [if_pos hl] at hy; exact h.2 j x y hx (by simpa using hy)
  · rename_i hl; rw [if_neg hl] at hy; exact h'.2 _ x y hx (by simpa using hy)
theorem CR.vals (I : Imm) (u : List Value) : CR I (u.map AV.v) u.toArray := by
  refine ⟨by simp, fun j x y hx hy => ?_⟩
  rw [List.getElem?_map] at hx
  simp only [List.getElem?_toArray] at hy
  rw [hy] at hx
  simp at hx; subst hx; exact .v _

/-- what is appended, as cells -/
theorem news_of {tag : Tag} {rows2 : List (List AV)} {vy : Value} {sz : Nat} (hy : Rep G.imm (.sl tag rows2) vy) (h2 : ∀ r ∈ rows2, r.length = sz) (hrel : HRel s.h G w) :
    (rows2 = [] ∧ (vy = .slice none 0 0 ∨ ∃ ad k, vy = .slice (some ad) 0 k)) ∨ ∃ b o cap news, vy = .slice (some ⟨b, o, none⟩) rows2.length cap ∧ rows2.length ≤ maxLen ∧ Rows G.imm rows2 sz news ∧ news.length = rows2.length * sz ∧ (∀ j u, news[j]? = some u → w.cell? ((⟨b, o, none⟩ : Addr).add j) = some u) := by
  cases hy with
  | nil => exact .inl ⟨rfl, .inl rfl⟩
  | empty _ _ a c => exact .inl ⟨rfl, .inr ⟨_, _, rfl⟩⟩
  | sl s2 c2 ht2 hcap2 hlen2 hs2 hk2 hi2 hr2 =>
    rename_i b2 o2 cap2
    have hyrep : Rep G.imm (.sl tag rows2) (.slice (some ⟨b2, o2, none⟩) rows2.length cap2) := .sl s2 c2 ht2 hcap2 hlen2 hs2 hk2 hi2 hr2
    obtain ⟨_, _, hml2, bb, oo, hbo, news, hrn, hnews⟩ := Rows.of_rep hyrep h2 (.inl rfl)
    injection hbo with e1 e2
    subst e1; subst e2
    exact .inr ⟨b2, o2, cap2, news, rfl, hml2, hrn, hrn.len, fun j u hj => by rw [Addr.add_lit]; exact hrel.imm _ _ _ (hnews j u hj)⟩

/-- an object's cells, read -/
theorem obj_cells {b : Nat} {cells : List AV} (hb : s.h b = some cells) (hrel : HRel s.h G w) (off m : Nat) (hm : off + m ≤ cells.length) : ∃ us : List Value, us.length = m ∧ (∀ j u, us[j]? = some u → w.cell? ⟨b, off + j, none⟩ = some u) ∧ CR G.imm (((cells.drop off).take m).map dead1) us.toArray ∧
    ∃ arr T, w.heap[b]? = some (.cells arr T (0, 0)) ∧ arr.size = cells.length ∧ us = (arr.toList.drop off).take m := by
  obtain ⟨ho, arr, T, hh, hsz, hc⟩ := hrel.obj b cells hb
  have hl : ((arr.toList.drop off).take m).length = m := by rw [List.length_take, List.length_drop, Array.length_toList]; omega
  refine ⟨(arr.toList.drop off).take m, hl, fun j u hj => ?_, ⟨?_, fun j x y hx hy => ?_⟩, arr, T, hh, hsz, rfl⟩
  · rw [List.getElem?_take, List.getElem?_drop] at hj
    split at hj
    · simp [World.cell?, hh]; simpa using hj
    · simp at hj
  · rw [List.length_map, List.length_take, List.length_drop, List.size_toArray, hl]; omega
  · rw [List.getElem?_map, List.getElem?_take, List.getElem?_drop] at hx
    simp only [List.getElem?_toArray] at hy
    rw [List.getElem?_take, List.getElem?_drop] at hy
    split at hx
    · rename_i hjm
      rw [if_pos hjm] at hy
      cases hz : cells[off + j]? with
      | none => simp [hz] at hx
      | some z => simp [hz] at hx; subst hx; exact (hc _ z y hz (by simpa using hy)).1.dead
    · simp at hx

/-- One's own slice grows: in its place, or in a new one. -/
theorem sm_append_step (r : Rel B F w0 I0 s G a w) {t ty e sz by_ b n c : Nat} {tag2 : Tag} {rows2 : List (List AV)} {vx vy : Value} {z cells : List AV}
    (hs : slT P t = some (e, sz, by_)) (hz : zT P e = some z) (hzl : z.length = sz) (hpos : 0 < sz) (hbpos : 0 < by_)
    (hx : Rep G.imm (.sm b 0 n c) vx) (hb : s.h b = some cells) (hcl : cells.length = c * sz) (hy : Rep G.imm (.sl tag2 rows2) vy)
    (h2 : ∀ r ∈ rows2, r.length = sz) (hby : (n + rows2.length) * by_ ≤ 140737488355328) :
    ∃ v' w' G' b' c' spare, (Builtin.append_ #[t, t] ty #[vx, vy]).run P w = .ok v' w' ∧ Rep G'.imm (.sm b' 0 (n + rows2.length) c') v' ∧ (b' = b ∨ s.h b' = none) ∧ n + rows2.length ≤ c' ∧
      spare.length + (n + rows2.length) * sz = c' * sz ∧
      Rel B F w0 I0 { s with h := upd (upd s.h b none) b' (some ((cells.take (n * sz)).map dead1 ++ rows2.flatten.map dead1 ++ spare)) } G' a w' := by
  obtain ⟨inf, hu, hinf, hisz, hiby⟩ := slT_some hs
  simp only at hu hinf hisz hiby
  obtain ⟨inf', zv, hinf', hzv, hzcr, _⟩ := zT_some (I := G.imm) hz
  obtain rfl : inf = inf' := by rw [hinf] at hinf'; exact Option.some.inj hinf'
  have hzs : zv.cells.size = sz := by rw [← hzcr.1]; exact hzl
  have hnm : n + rows2.length ≤ (n + rows2.length) * by_ := Nat.le_mul_of_pos_right _ hbpos
  cases hx with
  | sm _ _ _ _ hnc hml hcm =>
  have hnsz : n * sz ≤ c * sz := Nat.mul_le_mul_right _ hnc
  -- in its place, nothing new
  have same : rows2 = [] → (Builtin.append_ #[t, t] ty #[.slice (some ⟨b, 0, none⟩) n c, vy]).run P w = .ok (.slice (some ⟨b, 0, none⟩) n c) w → ∃ v' w' G' b' c' spare, (Builtin.append_ #[t, t] ty #[.slice (some ⟨b, 0, none⟩) n c, vy]).run P w = .ok v' w' ∧ Rep G'.imm (.sm b' 0 (n + rows2.length) c') v' ∧ (b' = b ∨ s.h b' = none) ∧ n + rows2.length ≤ c' ∧
      spare.length + (n + rows2.length) * sz = c' * sz ∧
      Rel B F w0 I0 { s with h := upd (upd s.h b none) b' (some ((cells.take (n * sz)).map dead1 ++ rows2.flatten.map dead1 ++ spare)) } G' a w' := by
    intro he hrun
    subst he
    refine ⟨_, w, G, b, c, (cells.drop (n * sz)).map dead1, hrun, .sm _ _ _ _ hnc hml hcm, .inl rfl, hnc, ?_, ?_⟩
    · rw [List.length_map, List.length_drop, hcl]; simp only [List.length_nil, Nat.add_zero]; omega
    · refine r.weaken _ fun k c' hk => ?_
      simp only [upd] at hk
      split at hk
      · rename_i hkb
        subst hkb
        obtain rfl := Option.some.inj hk
        refine ⟨cells, hb, by simp, fun j x hx => ?_⟩
        simp only [List.flatten_nil, List.map_nil, List.append_nil] at hx
        rw [← List.map_append, List.take_append_drop, List.getElem?_map] at hx
        cases hz' : cells[j]? with
        | none => simp [hz'] at hx
        | some x0 => simp [hz'] at hx; exact ⟨x0, rfl, .inr hx.symm⟩
      · exact ⟨c', hk, rfl, fun j x hx => ⟨x, hx, .inl rfl⟩⟩
  rcases news_of hy h2 r.hrel with ⟨he, hyz⟩ | ⟨b2, o2, cap2, news, rfl, hml2, hrn, hnl, hnews⟩
  · exact same he (run_append_zero hu hinf hnc hyz)
  have hncr := hrn.cells
  obtain ⟨olds, hol, holds, hocr, arr, T, hh, harr, hoeq⟩ := obj_cells hb r.hrel 0 (n * sz) (by omega)
  rw [List.drop_zero] at hocr hoeq
  have hn1 : news.length = rows2.length * inf.size := by rw [hisz]; exact hnl
  by_cases hroom : n + rows2.length ≤ c
  · -- in its place
    have hfit0 : n * sz + news.length ≤ c * sz := by rw [hnl, ← Nat.add_mul]; exact Nat.mul_le_mul_right _ hroom
    have hfit : n * inf.size + news.length ≤ arr.size := by rw [hisz, harr, hcl]; exact hfit0
    have hr := run_append_roomT (P := P) w t ty e T inf hu hinf b n c arr hh ⟨b2, o2, none⟩ rows2.length cap2 news hn1 hnews hrn.one hroom hfit
    have hflen : (rows2.flatten.map dead1).length = news.length := by rw [List.length_map, flatten_length h2, hnl]
    have hfd : (rows2.flatten.map dead1).map dead1 = rows2.flatten.map dead1 := by rw [List.map_map]; exact List.map_congr_left fun x _ => dead1_dead1 x
    have hcap : n + rows2.length ≤ maxLen := by simp only [maxLen]; omega
    have hfx : ∀ x ∈ rows2.flatten.map dead1, dead1 x = x := fun x hx => by obtain ⟨q, _, rfl⟩ := List.mem_map.1 hx; simp
    generalize rows2.flatten.map dead1 = FF at *
    have hst := r.storeObj hb (n * sz) hncr (by rw [hflen, hcl]; exact hfit0) (fun j x y hx hy => LiveOK.of_dead (hfx x (List.mem_of_getElem? hx))) hh
    rw [hisz] at hr
    simp only [List.size_toArray] at hst
    refine ⟨_, _, G, b, c, (cells.drop (n * sz + news.length)).map dead1, hr, .sm _ _ _ _ hroom hcap hcm, .inl rfl, hroom, ?_, ?_⟩
    · rw [List.length_map, List.length_drop, hcl, Nat.add_mul, ← hnl]; omega
    · have := hst.weaken (upd (upd s.h b none) b (some ((cells.take (n * sz)).map dead1 ++ FF ++ (cells.drop (n * sz + news.length)).map dead1))) (fun k c' hk => by
        simp only [upd] at hk
        split at hk
        · rename_i hkb
          subst hkb
          obtain rfl := Option.some.inj hk
          refine ⟨overlay cells (n * sz) FF, by simp [upd], ?_, fun j x hx => ?_⟩
          · simp [overlay, hflen]
          · have : (cells.take (n * sz)).map dead1 ++ FF ++ (cells.drop (n * sz + news.length)).map dead1 = (overlay cells (n * sz) FF).map dead1 := by
              simp only [overlay, hflen, List.map_append, hfd]
            rw [this, List.getElem?_map] at hx
            cases hz' : (overlay cells (n * sz) FF)[j]? with
            | none => simp [hz'] at hx
            | some x0 => simp [hz'] at hx; exact ⟨x0, rfl, .inr hx.symm⟩
        · rename_i hkb
          exact ⟨c', by simp only [upd, hkb, if_false]; exact hk, rfl, fun j x hx => ⟨x, hx, .inl rfl⟩⟩)
      simpa using this
  · -- a new array
    have hlt : c < n + rows2.length := by omega
    by_cases hm0 : rows2.length = 0
    · omega
    have hr := run_append_grow (P := P) w t ty e inf zv hu hinf hzv ⟨b, 0, none⟩ n c olds (by rw [hisz]; exact hol)
      (fun j u hj => by rw [Addr.add_lit]; exact holds j u hj) ⟨b2, o2, none⟩ rows2.length cap2 news hn1 hnews hlt (by omega) (growslice_fits hlt (by rw [hiby]; exact hby))
    have hcr : CR G.imm ((cells.take (n * sz)).map dead1 ++ rows2.flatten.map dead1 ++ (Builtin.zeroCells zv.cells (grownCap w (n + rows2.length) c e - (n + rows2.length))).toList.map AV.v)
        (olds.toArray ++ news.toArray ++ Builtin.zeroCells zv.cells (grownCap w (n + rows2.length) c e - (n + rows2.length))) := by
      have h1 := (hocr.append hncr).append (CR.vals G.imm (Builtin.zeroCells zv.cells (grownCap w (n + rows2.length) c e - (n + rows2.length))).toList)
      have e1 : (olds ++ news ++ (Builtin.zeroCells zv.cells (grownCap w (n + rows2.length) c e - (n + rows2.length))).toList).toArray = olds.toArray ++ news.toArray ++ Builtin.zeroCells zv.cells (grownCap w (n + rows2.length) c e - (n + rows2.length)) := by
        simp
      rw [← e1]; exact h1
    obtain ⟨hnone, G', r', himm⟩ := r.newObj (w1 := w.drew) rfl (Calm.drew w) _ _ e hcr (fun x hx => by
      simp only [List.mem_append, List.mem_map] at hx
      rcases hx with (⟨q, _, rfl⟩ | ⟨q, _, rfl⟩) | ⟨q, _, rfl⟩ <;> simp)
    have hge := grownCap_ge w (n + rows2.length) c e
    have h63 : n + rows2.length ≤ Go.maxLen := by simp only [Go.maxLen]; omega
    have hcm' := grownCap_le_maxLen w (n + rows2.length) c e h63
    have hne : w.heap.size ≠ b := by
      intro hq; rw [hq] at hnone; rw [hb] at hnone; simp at hnone
    refine ⟨_, _, G', w.heap.size, grownCap w (n + rows2.length) c e, (Builtin.zeroCells zv.cells (grownCap w (n + rows2.length) c e - (n + rows2.length))).toList.map AV.v, hr, .sm _ _ _ _ hge (by simp only [maxLen]; omega) hcm', .inr hnone, hge, ?_, r'.weaken _ (fun k c' hk => ?_)⟩
    · rw [List.length_map, Array.length_toList, size_zeroCells, hzs, ← Nat.add_mul]; congr 1; omega
    · simp only [upd] at hk
      split at hk
      · rename_i hkb
        exact ⟨c', by simp only [upd, hkb, if_true]; exact hk, rfl, fun j x hx => ⟨x, hx, .inl rfl⟩⟩
      · rename_i hkb
        split at hk
        · simp at hk
        · exact ⟨c', by simp only [upd, hkb, if_false]; exact hk, rfl, fun j x hx => ⟨x, hx, .inl rfl⟩⟩

/-- One's own slice that is nil yet grows. -/
theorem mn_append_step (r : Rel B F w0 I0 s G a w) {t ty e sz by_ : Nat} {tag2 : Tag} {rows2 : List (List AV)} {vx vy : Value} {z : List AV}
    (hs : slT P t = some (e, sz, by_)) (hz : zT P e = some z) (hzl : z.length = sz) (hpos : 0 < sz) (hbpos : 0 < by_)
    (hx : Rep G.imm .mn vx) (hy : Rep G.imm (.sl tag2 rows2) vy) (h2 : ∀ r ∈ rows2, r.length = sz) (hby : rows2.length * by_ ≤ 140737488355328) :
    (rows2 = [] ∧ ∃ vr, (Builtin.append_ #[t, t] ty #[vx, vy]).run P w = .ok vr w ∧ Rep G.imm .mn vr) ∨
    (rows2 ≠ [] ∧ ∃ v' w' G' b' c' spare, (Builtin.append_ #[t, t] ty #[vx, vy]).run P w = .ok v' w' ∧ Rep G'.imm (.sm b' 0 rows2.length c') v' ∧ s.h b' = none ∧ rows2.length ≤ c' ∧
      spare.length + rows2.length * sz = c' * sz ∧ Rel B F w0 I0 { s with h := upd s.h b' (some (rows2.flatten.map dead1 ++ spare)) } G' a w') := by
  obtain ⟨inf, hu, hinf, hisz, hiby⟩ := slT_some hs
  simp only at hu hinf hisz hiby
  obtain ⟨inf', zv, hinf', hzv, hzcr, _⟩ := zT_some (I := G.imm) hz
  obtain rfl : inf = inf' := by rw [hinf] at hinf'; exact Option.some.inj hinf'
  have hzs : zv.cells.size = sz := by rw [← hzcr.1]; exact hzl
  have hnm : rows2.length ≤ rows2.length * by_ := Nat.le_mul_of_pos_right _ hbpos
  obtain ⟨ad, rfl⟩ : ∃ a, vx = .slice a 0 0 := by cases hx with | mn a => exact ⟨a, rfl⟩
  rcases news_of hy h2 r.hrel with ⟨he, hyz⟩ | ⟨b2, o2, cap2, news, rfl, hml2, hrn, hnl, hnews⟩
  · exact .inl ⟨he, _, run_append_zero hu hinf (Nat.le_refl _) hyz, .mn ad⟩
  by_cases hm : rows2.length = 0
  · exact .inl ⟨List.eq_nil_of_length_eq_zero hm, _, by rw [hm]; exact run_append_zero hu hinf (Nat.le_refl _) (.inr ⟨_, _, rfl⟩), .mn ad⟩
  have hncr := hrn.cells
  have hn1 : news.length = rows2.length * inf.size := by rw [hisz]; exact hnl
  refine .inr ⟨fun h => hm (by rw [h]; rfl), ?_⟩
  have hr : (Builtin.append_ #[t, t] ty #[.slice ad 0 0, .slice (some ⟨b2, o2, none⟩) rows2.length cap2]).run P w =
      .ok (.slice (some ⟨w.heap.size, 0, none⟩) rows2.length (grownCap w rows2.length 0 e)) (w.drew.alloc (.cells (news.toArray ++ Builtin.zeroCells zv.cells (grownCap w rows2.length 0 e - rows2.length)) e)) := by
    cases ad with
    | none => exact run_append_nil (P := P) w t ty e inf zv hu hinf hzv ⟨b2, o2, none⟩ rows2.length cap2 news hn1 hnews (by omega) (by omega) (by rw [hiby]; omega)
    | some ad =>
      have h := run_append_grow (P := P) w t ty e inf zv hu hinf hzv ad 0 0 [] (by simp) (by intro j v h; simp at h) ⟨b2, o2, none⟩ rows2.length cap2 news hn1 hnews (by omega) (by omega) (by rw [Nat.zero_add, nextslicecap_zero (by omega), hiby]; omega)
      simpa using h
  have hcr : CR G.imm (rows2.flatten.map dead1 ++ (Builtin.zeroCells zv.cells (grownCap w rows2.length 0 e - rows2.length)).toList.map AV.v)
      (news.toArray ++ Builtin.zeroCells zv.cells (grownCap w rows2.length 0 e - rows2.length)) := by
    have h1 := hncr.append (CR.vals G.imm (Builtin.zeroCells zv.cells (grownCap w rows2.length 0 e - rows2.length)).toList)
    have e1 : (news ++ (Builtin.zeroCells zv.cells (grownCap w rows2.length 0 e - rows2.length)).toList).toArray = news.toArray ++ Builtin.zeroCells zv.cells (grownCap w rows2.length 0 e - rows2.length) := by simp
    rw [← e1]; exact h1
  obtain ⟨hnone, G', r', himm⟩ := r.newObj (w1 := w.drew) rfl (Calm.drew w) _ _ e hcr (fun x hx => by
    simp only [List.mem_append, List.mem_map] at hx
    rcases hx with ⟨q, _, rfl⟩ | ⟨q, _, rfl⟩ <;> simp)
  have hge := grownCap_ge w rows2.length 0 e
  have h63 : rows2.length ≤ Go.maxLen := by simp only [Go.maxLen]; omega
  have hcm' := grownCap_le_maxLen w rows2.length 0 e h63
  exact ⟨_, _, G', w.heap.size, grownCap w rows2.length 0 e, (Builtin.zeroCells zv.cells (grownCap w rows2.length 0 e - rows2.length)).toList.map AV.v, hr, .sm _ _ _ _ hge hml2 hcm', hnone, hge, by
    rw [List.length_map, Array.length_toList, size_zeroCells, hzs, ← Nat.add_mul]; congr 1; omega, r'⟩

/-- what is copied over is read first -/
theorem run_copy (w : World) (dT sT ty elem : TypeId) (inf : TypeInfo) (b o dLen dCap : Nat) (src : Value) (n m : Nat) (cs : List Value) {arr : Array Value} {T : TypeId}
    (hu : P.underlying dT = some (.slice elem)) (hi : P.info? elem = some inf) (hl : (Builtin.lenOf src).run P w = .ok m w) (hn : n = Nat.min m dLen)
    (hsrc : (Builtin.firstCells inf.size n src).run P w = .ok cs.toArray w) (hh : w.heap[b]? = some (.cells arr T (0, 0))) (hfit : o + cs.length ≤ arr.size) (h1 : ∀ v ∈ cs, v.oneCell' = true) :
    (Builtin.copy_ #[dT, sT] ty #[.slice (some ⟨b, o, none⟩) dLen dCap, src]).run P w = .ok (goInt n) (w.setRow b (arr.toList.take o ++ cs ++ arr.toList.drop (o + cs.length)).toArray) := by
  have hst := run_storeCells_at P b o T cs 0 arr w hh (by simpa using hfit) h1
  simp only [Nat.add_zero] at hst
  simp [Builtin.copy_, run_underlying hu, hl, ← hn, sizeOf, typeInfo, hi, hsrc, hst]

theorem mn_no {I : Imm} {v : Value} (h : Rep I .mn v) : Rep I (.sl .no []) v := by
  cases h with
  | mn a => cases a with
    | none => exact .nil _
    | some a => exact .empty _ (by simp) a 0
/-- Rows are copied over one's own slice. -/
theorem sm_copy_step (r : Rel B F w0 I0 s G a w) {dT sT ty e sz by_ b off n c : Nat} {tag2 : Tag} {rows2 : List (List AV)} {vx vy : Value} {cells : List AV}
    (hs : slT P dT = some (e, sz, by_)) (hx : Rep G.imm (.sm b off n c) vx) (hb : s.h b = some cells) (hcl : off + n * sz ≤ cells.length) (hy : Rep G.imm (.sl tag2 rows2) vy) (h2 : ∀ r ∈ rows2, r.length = sz) :
    ∃ w', (Builtin.copy_ #[dT, sT] ty #[vx, vy]).run P w = .ok (.int .i64 ((min rows2.length n : Nat) : Int)) w' ∧
      Rel B F w0 I0 { s with h := upd s.h b (some (overlay cells off ((rows2.take n).flatten.map dead1))) } G a w' := by
  obtain ⟨inf, hu, hinf, hisz, hiby⟩ := slT_some hs
  simp only at hu hinf hisz hiby
  have ht2 : ∀ r ∈ rows2.take n, r.length = sz := fun r hr => h2 r (List.mem_of_mem_take hr)
  have hmin : (rows2.take n).length = min rows2.length n := by rw [List.length_take, Nat.min_comm]
  cases hx with
  | sm _ _ _ _ hnc hml hcm =>
  obtain ⟨_, arr, T, hh, harr, _⟩ := r.hrel.obj b cells hb
  have go : ∀ cs : List Value, CR G.imm ((rows2.take n).flatten.map dead1) cs.toArray → (∀ v ∈ cs, v.oneCell' = true) → (Builtin.lenOf vy).run P w = .ok rows2.length w → (Builtin.firstCells inf.size (min rows2.length n) vy).run P w = .ok cs.toArray w →
      ∃ w', (Builtin.copy_ #[dT, sT] ty #[.slice (some ⟨b, off, none⟩) n c, vy]).run P w = .ok (.int .i64 ((min rows2.length n : Nat) : Int)) w' ∧
      Rel B F w0 I0 { s with h := upd s.h b (some (overlay cells off ((rows2.take n).flatten.map dead1))) } G a w' := by
    intro cs hcr h1 hl hf
    have hcl2 : cs.length = (min rows2.length n) * sz := by
      have := hcr.1
      rw [List.length_map, flatten_length ht2, hmin] at this
      simpa using this.symm
    have hle : cs.length ≤ n * sz := by rw [hcl2]; exact Nat.mul_le_mul_right _ (Nat.min_le_right _ _)
    have hrun := run_copy (P := P) w dT sT ty e inf b off n c vy (min rows2.length n) rows2.length cs hu hinf hl rfl hf hh (by omega) h1
    refine ⟨_, hrun, ?_⟩
    have hst := r.storeObj hb off hcr (by rw [hcr.1, List.size_toArray]; omega) (fun j x y hx hy => LiveOK.of_dead (by
      obtain ⟨q, _, rfl⟩ := List.mem_map.1 (List.mem_of_getElem? hx); simp)) hh
    simp only [List.size_toArray] at hst
    simpa using hst
  rcases news_of hy h2 r.hrel with ⟨he, hyz⟩ | ⟨b2, o2, cap2, news, rfl, hml2, hrn, hnl, hnews⟩
  · subst he
    have hl0 : ∀ (x : Addr), (loadCells x 0).run P w = .ok #[] w := fun x => by simpa using run_loadCells_list (P := P) w x [] (by simp)
    refine go [] ⟨by simp, by simp⟩ (by simp) ?_ ?_
    · rcases hyz with rfl | ⟨ad, k, rfl⟩ <;> simp [Builtin.lenOf]
    · rcases hyz with rfl | ⟨ad, k, rfl⟩ <;> simp [Builtin.firstCells, hl0]
  · have hrt : Rows G.imm (rows2.take n) sz (news.take (min rows2.length n * sz)) := by
      refine ⟨by rw [List.length_take, hmin, hnl]; exact Nat.min_eq_left (Nat.mul_le_mul_right _ (Nat.min_le_left _ _)), fun i r h => ht2 r (List.mem_of_getElem? h), fun i r j x h hx => ?_, fun i r j x h hx => ?_⟩
      · rw [List.getElem?_take] at h
        split at h
        · exact hrn.flag i r j x h hx
        · simp at h
      · have hi := lt_of_get h
        rw [hmin] at hi
        rw [List.getElem?_take] at h
        split at h
        · obtain ⟨v, hv, hrep⟩ := hrn.rep i r j x h hx
          have hj := lt_of_get hx
          rw [hrn.each i r h] at hj
          have : i * sz + j < min rows2.length n * sz := by
            have : (i + 1) * sz ≤ min rows2.length n * sz := Nat.mul_le_mul_right _ (by omega)
            rw [Nat.add_mul] at this; omega
          exact ⟨v, by rw [List.getElem?_take, if_pos this]; exact hv, hrep⟩
        · simp at h
    refine go _ hrt.cells hrt.one (by simp [Builtin.lenOf]) ?_
    have hld := run_loadCells_list (P := P) w ⟨b2, o2, none⟩ (news.take (min rows2.length n * sz)) (fun j u hj => by
      rw [List.getElem?_take] at hj
      split at hj
      · exact hnews j u hj
      · simp at hj)
    have hlen : (news.take (min rows2.length n * sz)).length = min rows2.length n * sz := by
      rw [List.length_take, hnl]; exact Nat.min_eq_left (Nat.mul_le_mul_right _ (Nat.min_le_left _ _))
    rw [hlen] at hld
    simp only [Builtin.firstCells, hisz]
    exact hld

/-- One's own slice is copied over another one of one's own, or over itself. -/
theorem sm_copy_sm (r : Rel B F w0 I0 s G a w) {dT sT ty e sz by_ b off n c b2 off2 n2 c2 : Nat} {vx vy : Value} {cells cells2 : List AV}
    (hs : slT P dT = some (e, sz, by_)) (hx : Rep G.imm (.sm b off n c) vx) (hb : s.h b = some cells) (hcl : off + n * sz ≤ cells.length) (hy : Rep G.imm (.sm b2 off2 n2 c2) vy) (hb2 : s.h b2 = some cells2) (hcl2 : off2 + n2 * sz ≤ cells2.length)
    (hone : ∀ x ∈ (cells2.drop off2).take (min n2 n * sz), cellAV x = true) :
    ∃ w', (Builtin.copy_ #[dT, sT] ty #[vx, vy]).run P w = .ok (.int .i64 ((min n2 n : Nat) : Int)) w' ∧
      Rel B F w0 I0 { s with h := upd s.h b (some (overlay cells off (((cells2.drop off2).take (min n2 n * sz)).map dead1))) } G a w' := by
  obtain ⟨inf, hu, hinf, hisz, hiby⟩ := slT_some hs
  simp only at hu hinf hisz hiby
  cases hx with
  | sm _ _ _ _ hnc hml hcm =>
  cases hy with
  | sm _ _ _ _ hnc2 hml2 hcm2 =>
  obtain ⟨_, arr, T, hh, harr, _⟩ := r.hrel.obj b cells hb
  have hm1 : min n2 n * sz ≤ n2 * sz := Nat.mul_le_mul_right _ (Nat.min_le_left _ _)
  have hm2 : min n2 n * sz ≤ n * sz := Nat.mul_le_mul_right _ (Nat.min_le_right _ _)
  obtain ⟨us, hul, hus, hucr, _⟩ := obj_cells hb2 r.hrel off2 (min n2 n * sz) (by omega)
  have hld := run_loadCells_list (P := P) w ⟨b2, off2, none⟩ us (fun j u hj => by rw [Addr.add_lit]; exact hus j u hj)
  rw [hul] at hld
  have h1 : ∀ v ∈ us, v.oneCell' = true := fun v hv => by
    obtain ⟨j, hj, rfl⟩ := List.getElem_of_mem hv
    have hj' : j < (((cells2.drop off2).take (min n2 n * sz)).map dead1).length := by rw [hucr.1]; simpa using hj
    have := hucr.2 j _ us[j] (List.getElem?_eq_getElem hj') (by simp [hj])
    refine oneCell_of this ?_
    simp only [List.getElem_map]
    have hmem : ((cells2.drop off2).take (min n2 n * sz))[j]'(by simpa using hj') ∈ (cells2.drop off2).take (min n2 n * sz) := List.getElem_mem _
    have := hone _ hmem
    generalize ((cells2.drop off2).take (min n2 n * sz))[j]'(by simpa using hj') = x at this
    cases x <;> first | exact this | (simp [cellAV] at this)
  have hrun := run_copy (P := P) w dT sT ty e inf b off n c (.slice (some ⟨b2, off2, none⟩) n2 c2) (min n2 n) n2 us hu hinf (by simp [Builtin.lenOf]) rfl (by simp only [Builtin.firstCells, hisz]; exact hld) hh (by omega) h1
  refine ⟨_, hrun, ?_⟩
  have hst := r.storeObj hb off hucr (by rw [hucr.1, List.size_toArray]; omega) (fun j x y hx hy => LiveOK.of_dead (by
    obtain ⟨q, _, rfl⟩ := List.mem_map.1 (List.mem_of_getElem? hx); simp)) hh
  simp only [List.size_toArray] at hst
  simpa using hst

/-- A slice is made. -/
theorem make_step (r : Rel B F w0 I0 s G a w) {t e sz by_ n : Nat} {z : List AV} {kl kc : IntKind} (hs : slT P t = some (e, sz, by_)) (hz : zT P e = some z) (hzl : z.length = sz) (hby : by_ * n ≤ 140737488355328) (hn : n ≤ maxLen) :
    ∃ w' G', (Instr.makeSlice t (.int kl (n : Int)) (.int kc (n : Int))).run P w = .ok (.slice (some ⟨w.heap.size, 0, none⟩) n n) w' ∧ s.h w.heap.size = none ∧
      Rel B F w0 I0 { s with h := upd s.h w.heap.size (some (List.replicate n (z.map nl)).flatten) } G' a w' := by
  obtain ⟨inf, hu, hinf, hisz, hiby⟩ := slT_some hs
  simp only at hu hinf hisz hiby
  obtain ⟨inf', zv, hinf', hzv, hzcr, hdl⟩ := zT_nl (I := G.imm) hz
  obtain rfl : inf = inf' := by rw [hinf] at hinf'; exact Option.some.inj hinf'
  have hzs : zv.cells.size = sz := by rw [← hzcr.1]; simpa using hzl
  have hb' : (inf.bytes : Int) * (n : Int) ≤ 281474976710656 := by
    have h : ((inf.bytes * n : Nat) : Int) ≤ 281474976710656 := by rw [hiby]; omega
    rwa [Int.natCast_mul] at h
  have hm : (n : Int) ≤ 9223372036854775807 := by simp [maxLen] at hn; omega
  have hr := run_make (P := P) w t e inf zv hu hinf hzv kl kc n n (by omega) (Int.le_refl _) hb' hm
  simp only [Int.toNat_natCast] at hr
  have hlen : (List.replicate n (z.map nl)).flatten.length = n * sz := by rw [flatten_length (sz := sz) (fun r hr => by rw [List.eq_of_mem_replicate hr]; simpa using hzl)]; simp
  have hcr : CR G.imm (List.replicate n (z.map nl)).flatten (madeCells zv.cells (n * inf.size)) := by
    refine ⟨by rw [hlen, size_madeCells, hisz], fun j x y hx hy => ?_⟩
    have hj := lt_of_get hx
    rw [hlen] at hj
    obtain ⟨rr, h1, h2, h3⟩ := flatten_get (sz := sz) (fun r hr => by rw [List.eq_of_mem_replicate hr]; simpa using hzl) hx
    have hrr : rr = z.map nl := by
      have := List.mem_of_getElem? h1
      exact List.eq_of_mem_replicate this
    subst hrr
    refine hzcr.2 (j % sz) x y h2 ?_
    have hjm : j % sz < zv.cells.size := by
      have := lt_of_get h2
      rw [← hzcr.1]; exact this
    have hq : (madeCells zv.cells (n * inf.size))[j]? = some (zv.cells[j % zv.cells.size]!) := by
      have hj2 : j < n * inf.size := by rw [hisz]; exact hj
      simp [madeCells, hj2]
    rw [hq] at hy
    obtain rfl := Option.some.inj hy
    rw [hzs]
    simp [hjm]
  obtain ⟨hnone, G', r', himm⟩ := r.newObj (w1 := w) rfl (Calm.refl w) _ _ e hcr (fun x hx => by
    obtain ⟨l, hl, hx⟩ := List.mem_flatten.1 hx
    rw [List.eq_of_mem_replicate hl] at hx
    exact hdl x hx)
  exact ⟨_, G', hr, hnone, r'⟩
end
end Go.Rw
