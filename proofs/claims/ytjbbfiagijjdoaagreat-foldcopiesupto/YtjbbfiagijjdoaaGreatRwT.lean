/- Parts of the proof: what is used by the law. No condition. -/
import Derived.Test.YtjbbfiagijjdoaaGreatRwV
import Derived.Test.YtjbbfiagijjdoaaGreatRwY
set_option linter.unusedSimpArgs false
set_option linter.unusedVariables false
/- Rules of their own: a slice grows by zeros, is cleared, its room. No condition. -/
set_option linter.unusedSimpArgs false
set_option linter.unusedVariables false
set_option maxRecDepth 10000
namespace Go.Rw

section
variable {P : Program} {w : World}
theorem run_append_zeros_nil (t u ty e : TypeId) (ku : IntKind) (i : TypeInfo) (z : Value) (ht : P.underlying t = some (.slice e)) (hu : P.underlying u = some (.int ku)) (hi : P.info? e = some i) (hz : i.zero = some z)
    (n : Nat) (h0 : 0 < n) (hs : 0 < i.size) (h48 : n * i.bytes ≤ 140737488355328) (h63 : n ≤ 140737488355328) :
    (Builtin.append_ #[t, u] ty #[.slice none 0 0, .int .i64 (n : Int)]).run P w =
      .ok (.slice (some ⟨w.heap.size, 0, none⟩) n (grownCap w n 0 e)) (w.drew.alloc (.cells (Builtin.zeroCells z.cells n ++ Builtin.zeroCells z.cells (grownCap w n 0 e - n)) e)) := by
  have hn : n ≠ 0 := by omega
  have h63' : ¬ (9223372036854775807 < (n : Int)) := by omega
  have h48' : ¬ (281474976710656 < Builtin.nextslicecap n 0 * i.bytes) := by rw [nextslicecap_zero h0]; omega
  have hw : IntKind.i64.wrap (n : Int) = (n : Int) := w64 (by omega) (by omega)
  have hneg : ¬ (n : Int) < 0 := by omega
  have h48b : ¬ (281474976710656 < (n : Int) * (i.bytes : Int)) := by
    have : ((n * i.bytes : Nat) : Int) ≤ 140737488355328 := Int.ofNat_le.2 h48
    rw [Int.natCast_mul] at this; omega
  have hns : ¬ n * i.size = 0 := by
    intro h; rcases Nat.mul_eq_zero.1 h with h | h <;> omega
  simp [Builtin.append_, run_underlying ht, run_underlying hu, sizeOf, typeInfo, zeroValue, hi, hz, hn, h63', h48', hw, hneg, h48b, hns, asInt, asIntOf, Question.forced, run_firstCells_none, newRow, grownCap]
theorem run_append_zeros_grow (t u ty e : TypeId) (ku : IntKind) (i : TypeInfo) (z : Value) (ht : P.underlying t = some (.slice e)) (hu : P.underlying u = some (.int ku)) (hi : P.info? e = some i) (hz : i.zero = some z)
    (b : Addr) (sLen sCap : Nat) (olds : List Value) (hlo : olds.length = sLen * i.size) (holds : ∀ j v, olds[j]? = some v → w.cell? (b.add j) = some v)
    (n : Nat) (h0 : 0 < n) (hs : 0 < i.size) (h48 : n * i.bytes ≤ 140737488355328) (h63 : sLen + n ≤ 140737488355328) (hg : sCap < sLen + n) (hfit : Builtin.nextslicecap (sLen + n) sCap * i.bytes ≤ 281474976710656) :
    (Builtin.append_ #[t, u] ty #[.slice (some b) sLen sCap, .int .i64 (n : Int)]).run P w =
      .ok (.slice (some ⟨w.heap.size, 0, none⟩) (sLen + n) (grownCap w (sLen + n) sCap e)) (w.drew.alloc (.cells (olds.toArray ++ Builtin.zeroCells z.cells n ++ Builtin.zeroCells z.cells (grownCap w (sLen + n) sCap e - (sLen + n))) e)) := by
  have hn : n ≠ 0 := by omega
  have hn2 : ¬ (sLen + n ≤ sCap) := by omega
  have h63' : ¬ (9223372036854775807 < (sLen : Int) + (n : Int)) := by omega
  have h48' : ¬ (281474976710656 < Builtin.nextslicecap (sLen + n) sCap * i.bytes) := by omega
  have hw : IntKind.i64.wrap (n : Int) = (n : Int) := w64 (by omega) (by omega)
  have hneg : ¬ (n : Int) < 0 := by omega
  have h48b : ¬ (281474976710656 < (n : Int) * (i.bytes : Int)) := by
    have : ((n * i.bytes : Nat) : Int) ≤ 140737488355328 := Int.ofNat_le.2 h48
    rw [Int.natCast_mul] at this; omega
  have hns : ¬ n * i.size = 0 := by
    intro h; rcases Nat.mul_eq_zero.1 h with h | h <;> omega
  have hfo := run_firstCells_some (P := P) w.drew i.size sLen b sLen sCap olds hlo (by simpa using holds)
  simp [Builtin.append_, run_underlying ht, run_underlying hu, sizeOf, typeInfo, zeroValue, hi, hz, hn, hn2, h63', h48', hw, hneg, h48b, hns, asInt, asIntOf, Question.forced, hfo, newRow, grownCap]
  try (congr 2; apply Array.ext'; simp [List.append_assoc])
end

section
variable {P : Program} {B : Nat} {F : Nat → Prop} {w0 : World} {I0 : Imm} {s : ASt} {G : Ghost} {a : Act} {w : World}
theorem crVals (I : Imm) (arr : Array Value) : CR I (arr.toList.map AV.v) arr := by
  have h := CR.vals I arr.toList
  rwa [Array.toArray_toList] at h
theorem zero_one {e : TypeId} {z : List AV} {inf : TypeInfo} {zv : Value} (hz : zT P e = some z) (hi : P.info? e = some inf) (hzv : inf.zero = some zv) : ∀ v ∈ zv.cells.toList, v.oneCell' = true := by
  unfold zT at hz
  rw [hi] at hz
  simp only [hzv] at hz
  split at hz
  · rename_i ha
    rw [List.all_eq_true] at ha
    intro v hv
    have := ha (z2a v) (List.mem_map.2 ⟨v, hv, rfl⟩)
    unfold z2a at this
    split at this
    · rfl
    · exact this
  · simp at hz
theorem zeroCells_mem {zs : Array Value} {n : Nat} {v : Value} (hs : 0 < zs.size) (h : v ∈ Builtin.zeroCells zs n) : v ∈ zs := by
  unfold Builtin.zeroCells at h
  obtain ⟨i, _, rfl⟩ := Array.mem_map.1 h
  have hlt : i % zs.size < zs.size := Nat.mod_lt _ hs
  rw [getElem!_pos zs _ hlt]
  exact Array.getElem_mem hlt
/-- A nil slice of one's own grows by zeros. -/
theorem zerosMn {ops : List Oper} {d : Option Tmp} {tx : Tmp} {y : Operand} {t u ty : TypeId} {pos : String} {after : Array Edge} {g : Option (Nat × Bool)} {K : ASt → Prop} {e sz by_ : Nat} {z : List AV} {ku : IntKind} (k : Nat)
    (htu : u ≠ t) (hs : slT P t = some (e, sz, by_)) (hu : ikT P u = some ku) (hz : zT P e = some z) (hzl : z.length = sz) (hpos : 0 < sz) (hx : s.t tx = .mn) (hy : s.ev y = .v (.int .i64 (k : Int))) (hk0 : 0 < k) (hkb : k * by_ ≤ 140737488355328) (hk63 : k ≤ 140737488355328)
    (hk : ∀ (b' c' : Nat) (spare : List AV), s.h b' = none → k ≤ c' → spare.length = c' * sz → @forceL (some spare) ⟨fun z => K ({ s with h := upd s.h b' (some z) }.put d (.sm b' 0 k c'))⟩) :
    aop P ops ⟨d, .call ⟨.builtin .append, #[.tmp tx, y], #[t, u]⟩, ty, pos, after, g⟩ s K := by
  unfold aop
  simp only [htu, if_false]
  intro B F w0 I0 G a w Q r
  obtain ⟨inf, hu1, hinf, hisz, hiby⟩ := slT_some hs
  simp only at hu1 hinf hisz hiby
  obtain ⟨inf', zv, hinf', hzv, hzcr, _⟩ := zT_some (I := G.imm) hz
  obtain rfl : inf = inf' := by rw [hinf] at hinf'; exact Option.some.inj hinf'
  have hzs : zv.cells.size = sz := by rw [← hzcr.1]; exact hzl
  have hui : P.underlying u = some (.int ku) := by
    unfold ikT at hu
    split at hu
    · rename_i k' hk'; rw [hk', Option.some.inj hu]
    · simp at hu
  have hxr := r.ev (.tmp tx)
  rw [show s.ev (.tmp tx) = s.t tx from rfl, hx] at hxr
  have hyr := r.ev y
  rw [hy] at hyr
  generalize hvx : a.eval (.tmp tx) = vx at hxr
  generalize hvy : a.eval y = vy at hyr
  obtain ⟨ad, rfl⟩ : ∃ a, vx = .slice a 0 0 := by cases hxr with | mn a => exact ⟨a, rfl⟩
  cases hyr
  have hrun : (Builtin.append_ #[t, u] ty #[.slice ad 0 0, .int .i64 (k : Int)]).run P w =
      .ok (.slice (some ⟨w.heap.size, 0, none⟩) k (grownCap w k 0 e)) (w.drew.alloc (.cells (Builtin.zeroCells zv.cells k ++ Builtin.zeroCells zv.cells (grownCap w k 0 e - k)) e)) := by
    cases ad with
    | none => exact run_append_zeros_nil (P := P) (w := w) t u ty e ku inf zv hu1 hui hinf hzv k hk0 (by omega) (by rw [hiby]; exact hkb) hk63
    | some ad =>
      have h := run_append_zeros_grow (P := P) (w := w) t u ty e ku inf zv hu1 hui hinf hzv ad 0 0 [] (by simp) (by intro j v h; simp at h) k hk0 (by omega) (by rw [hiby]; exact hkb) (by omega) (by omega) (by rw [Nat.zero_add, nextslicecap_zero hk0, hiby]; omega)
      simpa using h
  have hcr : CR G.imm ((Builtin.zeroCells zv.cells k ++ Builtin.zeroCells zv.cells (grownCap w k 0 e - k)).toList.map AV.v) (Builtin.zeroCells zv.cells k ++ Builtin.zeroCells zv.cells (grownCap w k 0 e - k)) := crVals _ _
  obtain ⟨hnone, G', r', himm⟩ := r.newObj (w1 := w.drew) rfl (Calm.drew w) _ _ e hcr (fun x hx => by
    simp only [List.mem_map] at hx
    obtain ⟨q, _, rfl⟩ := hx
    simp)
  have hge := grownCap_ge w k 0 e
  have hcm' := grownCap_le_maxLen w k 0 e (by simp only [Go.maxLen]; omega)
  refine Oper.wp_value (o := ⟨d, .call ⟨.builtin .append, #[.tmp tx, y], #[t, u]⟩, ty, pos, after, g⟩) (v := .slice (some ⟨w.heap.size, 0, none⟩) k (grownCap w k 0 e)) ?_
    ⟨_, G', hk w.heap.size (grownCap w k 0 e) _ hnone hge ?_, r'.put d _ _ (.sm _ _ _ _ hge (by simp only [maxLen]; omega) hcm') (fun _ _ => trivial), put_size _ _ _⟩
  · simp only [execOp, resolve, Sem.run_bind, Sem.run_pure, Result.andThen_ok, invoke, builtin]
    simp [hvx, hvy] at hrun ⊢
    simp [hrun]
  · rw [List.length_map, Array.length_toList, Array.size_append, size_zeroCells, size_zeroCells, hzs, ← Nat.add_mul]; congr 1; omega
/-- A slice of one's own without room grows by zeros: into new memory. -/
theorem zerosSm {ops : List Oper} {d : Option Tmp} {tx : Tmp} {y : Operand} {t u ty : TypeId} {pos : String} {after : Array Edge} {g : Option (Nat × Bool)} {K : ASt → Prop} {e sz by_ : Nat} {z : List AV} {ku : IntKind} (k b n c : Nat) (cells : List AV)
    (htu : u ≠ t) (hs : slT P t = some (e, sz, by_)) (hu : ikT P u = some ku) (hz : zT P e = some z) (hzl : z.length = sz) (hpos : 0 < sz) (hbpos : 0 < by_) (hx : s.t tx = .sm b 0 n c) (hy : s.ev y = .v (.int .i64 (k : Int))) (hb : s.h b = some cells) (hcl : cells.length = c * sz)
    (hk0 : 0 < k) (hc : c < n + k) (hkb : (n + k) * by_ ≤ 140737488355328)
    (hk : ∀ (b' c' : Nat) (spare : List AV), s.h b' = none → n + k ≤ c' → spare.length + n * sz = c' * sz → @forceL (some ((cells.take (n * sz)).map dead1 ++ spare)) ⟨fun z => K ({ s with h := upd s.h b' (some z) }.put d (.sm b' 0 (n + k) c'))⟩) :
    aop P ops ⟨d, .call ⟨.builtin .append, #[.tmp tx, y], #[t, u]⟩, ty, pos, after, g⟩ s K := by
  unfold aop
  simp only [htu, if_false]
  intro B F w0 I0 G a w Q r
  obtain ⟨inf, hu1, hinf, hisz, hiby⟩ := slT_some hs
  simp only at hu1 hinf hisz hiby
  obtain ⟨inf', zv, hinf', hzv, hzcr, _⟩ := zT_some (I := G.imm) hz
  obtain rfl : inf = inf' := by rw [hinf] at hinf'; exact Option.some.inj hinf'
  have hzs : zv.cells.size = sz := by rw [← hzcr.1]; exact hzl
  have hui : P.underlying u = some (.int ku) := by
    unfold ikT at hu
    split at hu
    · rename_i k' hk'; rw [hk', Option.some.inj hu]
    · simp at hu
  have hxr := r.ev (.tmp tx)
  rw [show s.ev (.tmp tx) = s.t tx from rfl, hx] at hxr
  have hyr := r.ev y
  rw [hy] at hyr
  generalize hvx : a.eval (.tmp tx) = vx at hxr
  generalize hvy : a.eval y = vy at hyr
  have hnm : n + k ≤ (n + k) * by_ := Nat.le_mul_of_pos_right _ hbpos
  cases hxr with
  | sm _ _ _ _ hnc hml hcm =>
  cases hyr
  have hnsz : n * sz ≤ c * sz := Nat.mul_le_mul_right _ hnc
  obtain ⟨olds, hol, holds, hocr, arr, T, hh, harr, hoeq⟩ := obj_cells hb r.hrel 0 (n * sz) (by omega)
  rw [List.drop_zero] at hocr hoeq
  have hkb2 : k * by_ ≤ (n + k) * by_ := Nat.mul_le_mul_right _ (by omega)
  have hrun := run_append_zeros_grow (P := P) (w := w) t u ty e ku inf zv hu1 hui hinf hzv ⟨b, 0, none⟩ n c olds (by rw [hisz]; exact hol) (fun j u hj => by rw [Addr.add_lit]; exact holds j u hj) k hk0 (by omega) (by rw [hiby]; omega) (by omega) hc
    (growslice_fits hc (by rw [hiby]; exact hkb))
  have hcr : CR G.imm ((cells.take (n * sz)).map dead1 ++ (Builtin.zeroCells zv.cells k ++ Builtin.zeroCells zv.cells (grownCap w (n + k) c e - (n + k))).toList.map AV.v)
      (olds.toArray ++ Builtin.zeroCells zv.cells k ++ Builtin.zeroCells zv.cells (grownCap w (n + k) c e - (n + k))) := by
    have h1 := hocr.append (CR.vals G.imm (Builtin.zeroCells zv.cells k ++ Builtin.zeroCells zv.cells (grownCap w (n + k) c e - (n + k))).toList)
    have e1 : (olds ++ (Builtin.zeroCells zv.cells k ++ Builtin.zeroCells zv.cells (grownCap w (n + k) c e - (n + k))).toList).toArray = olds.toArray ++ Builtin.zeroCells zv.cells k ++ Builtin.zeroCells zv.cells (grownCap w (n + k) c e - (n + k)) := by
      simp
    rw [← e1]; exact h1
  obtain ⟨hnone, G', r', himm⟩ := r.newObj (w1 := w.drew) rfl (Calm.drew w) _ _ e hcr (fun x hx => by
    simp only [List.mem_append, List.mem_map] at hx
    rcases hx with ⟨q, _, rfl⟩ | ⟨q, _, rfl⟩ <;> simp)
  have hge := grownCap_ge w (n + k) c e
  have hcm' := grownCap_le_maxLen w (n + k) c e (by simp only [Go.maxLen]; omega)
  refine Oper.wp_value (o := ⟨d, .call ⟨.builtin .append, #[.tmp tx, y], #[t, u]⟩, ty, pos, after, g⟩) (v := .slice (some ⟨w.heap.size, 0, none⟩) (n + k) (grownCap w (n + k) c e)) ?_
    ⟨_, G', hk w.heap.size (grownCap w (n + k) c e) _ hnone hge ?_, r'.put d _ _ (.sm _ _ _ _ hge (by simp only [maxLen]; omega) hcm') (fun _ _ => trivial), put_size _ _ _⟩
  · simp only [execOp, resolve, Sem.run_bind, Sem.run_pure, Result.andThen_ok, invoke, builtin]
    simp [hvx, hvy] at hrun ⊢
    simp [hrun]
  · rw [List.length_map, Array.length_toList, Array.size_append, size_zeroCells, size_zeroCells, hzs, ← Nat.add_mul, ← Nat.add_mul]; congr 1; omega
/-- the room of a slice of one's own -/
theorem capSm {ops : List Oper} {d : Option Tmp} {x : Operand} {t ty : TypeId} {pos : String} {after : Array Edge} {g : Option (Nat × Bool)} {K : ASt → Prop} {e : Nat × Nat × Nat} {b o n c : Nat} (hs : slT P t = some e) (hx : s.ev x = .sm b o n c) (hk : @force (.v (.int .i64 (c : Nat))) ⟨fun v => K (s.put d v)⟩) :
    aop P ops ⟨d, .call ⟨.builtin .cap, #[x], #[t]⟩, ty, pos, after, g⟩ s K := by
  unfold aop
  simp only
  intro B F w0 I0 G a w Q r
  obtain ⟨inf, hu1, _⟩ := slT_some hs
  have hxr := r.ev x
  rw [hx] at hxr
  generalize hvx : a.eval x = vx at hxr
  cases hxr with
  | sm _ _ _ _ hnc hml hcm =>
  refine Oper.wp_value (o := ⟨d, .call ⟨.builtin .cap, #[x], #[t]⟩, ty, pos, after, g⟩) (v := .int .i64 (c : Int)) (w' := w) ?_ ⟨_, G, hk, r.put d _ _ (.v _) (fun _ _ => trivial), put_size _ _ _⟩
  simp only [execOp, resolve, Sem.run_bind, Sem.run_pure, Result.andThen_ok, invoke, builtin]
  simp [hvx, Builtin.cap_, run_underlying hu1, goInt]
theorem capMn {ops : List Oper} {d : Option Tmp} {x : Operand} {t ty : TypeId} {pos : String} {after : Array Edge} {g : Option (Nat × Bool)} {K : ASt → Prop} {e : Nat × Nat × Nat} (hs : slT P t = some e) (hx : s.ev x = .mn) (hk : @force (.v (.int .i64 0)) ⟨fun v => K (s.put d v)⟩) :
    aop P ops ⟨d, .call ⟨.builtin .cap, #[x], #[t]⟩, ty, pos, after, g⟩ s K := by
  unfold aop
  simp only
  intro B F w0 I0 G a w Q r
  obtain ⟨inf, hu1, _⟩ := slT_some hs
  have hxr := r.ev x
  rw [hx] at hxr
  generalize hvx : a.eval x = vx at hxr
  cases hxr
  refine Oper.wp_value (o := ⟨d, .call ⟨.builtin .cap, #[x], #[t]⟩, ty, pos, after, g⟩) (v := .int .i64 0) (w' := w) ?_ ⟨_, G, hk, r.put d _ _ (.v _) (fun _ _ => trivial), put_size _ _ _⟩
  simp only [execOp, resolve, Sem.run_bind, Sem.run_pure, Result.andThen_ok, invoke, builtin]
  simp [hvx, Builtin.cap_, run_underlying hu1, goInt]
/-- a slice of one's own is cleared: what stood there is not told any more -/
theorem clearSm {ops : List Oper} {x : Operand} {t ty : TypeId} {pos : String} {after : Array Edge} {g : Option (Nat × Bool)} {K : ASt → Prop} {e sz by_ b o n c : Nat} {z cells : List AV} (hs : slT P t = some (e, sz, by_)) (hz : zT P e = some z) (hzl : z.length = sz) (hx : s.ev x = .sm b o n c)
    (hb : s.h b = some cells) (hfit : o + n * sz ≤ cells.length) (hk : ∀ zs : List AV, zs.length = n * sz → @forceL (some (overlay cells o zs)) ⟨fun z => K { s with h := upd s.h b (some z) }⟩) :
    aop P ops ⟨none, .call ⟨.builtin .clear, #[x], #[t]⟩, ty, pos, after, g⟩ s K := by
  unfold aop
  simp only
  intro B F w0 I0 G a w Q r
  obtain ⟨inf, hu1, hinf, hisz, hiby⟩ := slT_some hs
  simp only at hu1 hinf hisz hiby
  obtain ⟨inf', zv, hinf', hzv, hzcr, _⟩ := zT_some (I := G.imm) hz
  obtain rfl : inf = inf' := by rw [hinf] at hinf'; exact Option.some.inj hinf'
  have hzs : zv.cells.size = sz := by rw [← hzcr.1]; exact hzl
  have hxr := r.ev x
  rw [hx] at hxr
  generalize hvx : a.eval x = vx at hxr
  cases hxr with
  | sm _ _ _ _ hnc hml hcm =>
  obtain ⟨ho, arr, T, hh, hsz, hc⟩ := r.hrel.obj b cells hb
  by_cases hn : n = 0
  · subst hn
    have h0 := hk [] (by simp)
    have hov : overlay cells o [] = cells := by simp [overlay]
    rw [hov] at h0
    have hup : ({ s with h := upd s.h b (some cells) } : ASt) = s := by
      have : upd s.h b (some cells) = s.h := by funext k; simp only [upd]; split <;> simp_all
      rw [this]
    have h1 : K s := by simpa [forceL, hup] using h0
    refine Oper.wp_value (o := ⟨none, .call ⟨.builtin .clear, #[x], #[t]⟩, ty, pos, after, g⟩) (v := .tuple #[]) (w' := w) ?_ ⟨_, G, h1, r, rfl⟩
    simp only [execOp, resolve, Sem.run_bind, Sem.run_pure, Result.andThen_ok, invoke, builtin]
    simp [hvx, Builtin.clear_, run_underlying hu1]
  · have hlz : (Builtin.zeroCells zv.cells n).size = n * sz := by rw [size_zeroCells, hzs]
    have hcr : CR G.imm ((Builtin.zeroCells zv.cells n).toList.map AV.v) (Builtin.zeroCells zv.cells n) := crVals _ _
    have hst := r.storeObj hb o hcr (by rw [List.length_map, Array.length_toList, hlz]; exact hfit) (fun j x y hx hy => LiveOK.of_dead (by
      obtain ⟨q, _, rfl⟩ := List.mem_map.1 (List.mem_of_getElem? hx); simp)) hh
    have h0 := hk ((Builtin.zeroCells zv.cells n).toList.map AV.v) (by rw [List.length_map, Array.length_toList, hlz])
    have h1 : K { s with h := upd s.h b (some (overlay cells o ((Builtin.zeroCells zv.cells n).toList.map AV.v))) } := by simpa [forceL] using h0
    refine Oper.wp_value (o := ⟨none, .call ⟨.builtin .clear, #[x], #[t]⟩, ty, pos, after, g⟩) (v := .tuple #[]) ?_ ⟨_, G, h1, hst, rfl⟩
    simp only [execOp, resolve, Sem.run_bind, Sem.run_pure, Result.andThen_ok, invoke, builtin]
    have h1c : ∀ v ∈ (Builtin.zeroCells zv.cells n).toList, v.oneCell' = true := fun v hv => by
      have hpos : 0 < zv.cells.size := by
        rcases Nat.eq_zero_or_pos zv.cells.size with h | h
        · have : (Builtin.zeroCells zv.cells n).toList.length = 0 := by rw [Array.length_toList, hlz, ← hzs, h, Nat.mul_zero]
          rw [List.length_eq_zero_iff.1 this] at hv; simp at hv
        · exact h
      exact zero_one hz hinf hzv v (Array.mem_toList_iff.2 (zeroCells_mem hpos (Array.mem_toList_iff.1 hv)))
    have hrs := run_storeCells_at P b o T (Builtin.zeroCells zv.cells n).toList 0 arr w hh (by rw [Array.length_toList, hlz, hsz, Nat.add_zero]; exact hfit) h1c
    simp [hvx, Builtin.clear_, run_underlying hu1, hn, zeroValue, typeInfo, hinf, hzv, hrs]
end
end Go.Rw
namespace Go.Rw
section
variable {P : Program}
/-- an empty slice without room stands in a slot -/
theorem Rel.emp {B : Nat} {F : Nat → Prop} {w0 : World} {I0 : Imm} {s : ASt} {G : Ghost} {a : Act} {w : World} (r : Rel B F w0 I0 s G a w) {d : Nat} {tag : Tag} (hd : s.t d = .sl tag []) (ht : tag = .nil ∨ tag = .full) :
    Rel B F w0 I0 { s with t := upd s.t d .mn } G a w := by
  refine ⟨r.hrel, r.size, fun i => ?_, r.defers, r.below, r.base, r.ownB, r.immB, r.sub0, r.calm⟩
  by_cases hi : i = d
  · subst hi
    obtain ⟨h1, h2⟩ := r.tmps i
    simp only [upd, if_true]
    rw [hd] at h1 h2
    refine ⟨?_, trivial⟩
    rcases ht with rfl | rfl
    · generalize a.tmps.getD i undef = y at *
      cases h1 with
      | nil => exact .mn none
      | empty _ hq => exact absurd rfl hq
      | sl _ _ hq => exact absurd rfl hq
    · obtain ⟨ad, n, hy⟩ := h2
      rw [hy] at h1 ⊢
      cases h1 with
      | nil => exact .mn none
      | empty _ hq a => exact .mn _
      | sl _ _ hq => exact .mn _
  · simp only [upd, hi, if_false]
    exact r.tmps i
variable {g : FuncId} {args args' : List AV} {s : ASt} {d : Option Tmp} {K : ASt → Prop} {nx : Hid (List AV)}
/-- new memory is taken as one's own to write, an empty slice without room as such -/
theorem CallK.own {R : AV → Prop} (h : ASpec P g args' R) (ha : args = args') (hk : ∀ r, R r → (∃ tag, (tag = .nil ∨ tag = .full) ∧ r = .sl tag [] ∧ @force .mn ⟨fun r => K (s.put d r)⟩) ∨ ∃ e sz pu rows, r = .sl (.live e sz pu) rows ∧ rows ≠ [] ∧ (pu = true ∨ ∀ r ∈ rows, ∀ x ∈ r, flat0 x = true) ∧
    ∀ (b cap : Nat) (spare : List Value), s.h b = none → rows.length ≤ cap → spare.length + rows.length * sz = cap * sz →
      @forceL (some (rows.flatten.map dead1 ++ spare.map AV.v)) ⟨fun z => K ({ s with h := upd s.h b (some z) }.put d (.sm b 0 rows.length cap))⟩) : @CallK P g args s d nx ⟨K⟩ := by
  subst ha
  refine .inl (.inl ⟨R, h, fun r hr => ?_⟩)
  rcases hk r hr with ⟨tag, ht, rfl, h1⟩ | ⟨e, sz, pu, rows, q1, q2, q3, q4⟩
  · refine .inl fun B F w0 I0 G a w rel => ?_
    cases d with
    | none => exact ⟨_, G, h1, rel⟩
    | some d =>
      by_cases hd : d < s.n
      · have e1 : s.put (some d) (.sl tag []) = { s with t := upd s.t d (.sl tag []) } := by simp [ASt.put, ASt.set, hd]
        have e2 : s.put (some d) .mn = { s with t := upd s.t d .mn } := by simp [ASt.put, ASt.set, hd]
        rw [e1] at rel
        have rel2 := rel.emp (d := d) (tag := tag) (by simp [upd]) ht
        have e3 : upd (upd s.t d (AV.sl tag [])) d .mn = upd s.t d .mn := by
          funext i
          simp only [upd]
          split <;> rfl
        refine ⟨_, G, ?_, rel2⟩
        show K { s with t := upd (upd s.t d (AV.sl tag [])) d .mn }
        rw [e3, ← e2]; exact h1
      · have e1 : ∀ x, s.put (some d) x = s := fun x => by simp [ASt.put, ASt.set, hd]
        have h2 : K (s.put (some d) .mn) := h1
        rw [e1] at rel h2
        exact ⟨_, G, h2, rel⟩
  · exact .inr ⟨e, sz, pu, rows, q1, q2, q3, q4⟩
end
end Go.Rw
