/- Rows of the call's own: a slice value that owns a row of elements; appending to it. Conditions: lengths stay far below the model's bounds. -/
import Derived.Test.YtffghamcggadcaaC4
import Derived.Maps.AppendAt
import Derived.Lib.AppendZerosOnto
import Derived.Lib.AppendZeros
import Derived.Laws.CopyOwn
import Derived.Lib.SliceRun
namespace Go.Proofs.Ytffghamcggadcaa
open Go.RowKit
set_option linter.unusedVariables false
set_option linter.unusedSimpArgs false
/-- what the table of types says of slice type t and its elements' type e -/
def ElemOk (P : Program) (t e : TypeId) (sz : Nat) : Prop := ∃ i z, P.underlying t = some (.slice e) ∧ P.info? e = some i ∧ i.zero = some z ∧ i.size = sz ∧ i.bytes ≤ 64 ∧ z.cells.size = sz
/-- an element's cells -/
structure EncOk {α : Type} (enc : α → List Value) (sz : Nat) : Prop where
  pos : 0 < sz
  len : ∀ x, (enc x).length = sz
  one : ∀ x u, u ∈ enc x → u.oneCell' = true
def Own {α : Type} (enc : α → List Value) (sz : Nat) (e : TypeId) (w : World) (base : Nat) (v : Value) (l : List α) : Prop := w.ownsRow base e sz v l.length (l.flatMap enc)
theorem flat_len {α : Type} {enc : α → List Value} {sz : Nat} (h : EncOk enc sz) (l : List α) : (l.flatMap enc).length = l.length * sz := by
  induction l with
  | nil => simp
  | cons x l ih => simp [h.len, ih, Nat.add_mul, Nat.add_comm]
theorem flat_get {α : Type} {enc : α → List Value} {sz : Nat} (h : EncOk enc sz) : ∀ (l : List α) (i j : Nat) (hi : i < l.length), j < sz → (l.flatMap enc)[i * sz + j]? = (enc l[i])[j]?
  | [], i, j, hi, _ => absurd hi (by simp)
  | x :: l, 0, j, _, hj => by
    simp only [List.flatMap_cons, Nat.zero_mul, Nat.zero_add, List.getElem_cons_zero]
    rw [List.getElem?_append_left (by rw [h.len]; exact hj)]
  | x :: l, i + 1, j, hi, hj => by
    simp only [List.flatMap_cons, List.getElem_cons_succ]
    rw [List.getElem?_append_right (by rw [h.len, Nat.add_mul]; omega), h.len, show (i + 1) * sz + j - sz = i * sz + j from by rw [Nat.add_mul]; omega]
    exact flat_get h l i j (by simpa using hi) hj
section
variable {α : Type} {enc : α → List Value} {sz : Nat} {e : TypeId} {w w' : World} {base : Nat} {v : Value} {l m : List α} {A : Option Addr} {S : Nat → Prop}
theorem At.flat (henc : EncOk enc sz) (h : At enc sz w A l) : ∀ j u, (l.flatMap enc)[j]? = some u → ∃ ad, A = some ad ∧ w.cell? (ad.add j) = some u := by
  intro j u hu
  have hj : j < l.length * sz := by
    rw [← flat_len henc]
    exact (List.getElem?_eq_some_iff.1 hu).1
  have hp := henc.pos
  have hi : j / sz < l.length := Nat.div_lt_of_lt_mul (by rw [Nat.mul_comm]; exact hj)
  have hjj : j = j / sz * sz + j % sz := by rw [Nat.mul_comm]; exact (Nat.div_add_mod j sz).symm
  obtain ⟨ad, ha, hc⟩ := h _ hi
  refine ⟨ad, ha, ?_⟩
  rw [hjj, flat_get henc l _ _ hi (Nat.mod_lt _ hp)] at hu
  rw [hjj]
  exact hc _ _ hu
theorem At.of_flat (henc : EncOk enc sz) {ad : Addr} (h : ∀ j u, (l.flatMap enc)[j]? = some u → w.cell? (ad.add j) = some u) : At enc sz w (some ad) l := fun i hi => by
  refine ⟨ad, rfl, fun j u hu => h _ _ ?_⟩
  rw [flat_get henc l i j hi (by rw [← henc.len l[i]]; exact (List.getElem?_eq_some_iff.1 hu).1)]
  exact hu
theorem Own.nil (enc : α → List Value) (sz : Nat) (e : TypeId) (w : World) (base : Nat) : Own enc sz e w base (.slice none 0 0) [] := World.ownsRow_nil w base e sz
theorem Own.kp (h : Own enc sz e w base v l) (hk : Kp S w w') (hs : ∀ b, v.ownBlock = some b → ¬ S b) : Own enc sz e w' base v l := by
  refine ⟨h.1, ?_⟩
  rcases h.2 with hn | ⟨g, cap, cur, rfl, hb, hgg, rest⟩
  · exact .inl hn
  · refine .inr ⟨g, cap, cur, rfl, hb, ?_, rest⟩
    rw [hk.block g (Array.getElem?_eq_some_iff.1 hgg).1 (hs g rfl)]
    exact hgg
theorem Own.gr (h : Own enc sz e w base v l) (hk : Gr w w') : Own enc sz e w' base v l := h.kp hk fun _ _ h => h
theorem Own.lt (h : Own enc sz e w base v l) {k : Nat} (hk : v.ownBlock = some k) : base ≤ k ∧ k < w.heap.size := World.ownsRow.lt h k hk
theorem Own.slice (h : Own enc sz e w base v l) : ∃ A c, v = .slice A l.length c ∧ l.length ≤ c ∧ c ≤ maxLen := by
  rcases h.2 with ⟨rfl, hn⟩ | ⟨g, cap, cur, rfl, hb, hgg, h1, h2, _⟩
  · exact ⟨none, 0, by rw [hn], by omega, by simp [maxLen]⟩
  · exact ⟨_, cap, rfl, h1, h2⟩
theorem Own.at_ {c : Nat} (henc : EncOk enc sz) (h : Own enc sz e w base (.slice A l.length c) l) : At enc sz w A l := by
  rcases h.2 with ⟨hv, hn⟩ | ⟨g, cap, cur, hv, hb, hgg, h1, h2, _⟩
  · have : l = [] := List.eq_nil_of_length_eq_zero hn
    subst this
    exact At.nil _ _ _ _
  · injection hv with hA
    subst hA
    exact At.of_flat henc (World.ownsRow.cells h (g := g) rfl)
theorem Own.cut (henc : EncOk enc sz) {g n c k : Nat} (h : Own enc sz e w base (.slice (some ⟨g, 0, none⟩) n c) l) (hk : k ≤ l.length) : Own enc sz e w base (.slice (some ⟨g, 0, none⟩) k c) (l.take k) := by
  have hlen : (l.take k).length = k := by simp; omega
  refine ⟨flat_len henc _, ?_⟩
  rw [hlen]
  rcases h.2 with ⟨hv, _⟩ | ⟨g', cap, cur, hv, hb, hgg, h1, h2, h3, h4⟩
  · cases hv
  · injection hv with hA hn hc
    cases hA
    subst hc
    refine .inr ⟨g, c, cur, rfl, hb, hgg, by omega, h2, h3, ?_⟩
    have : l.flatMap enc = (l.take k).flatMap enc ++ (l.drop k).flatMap enc := by rw [← List.flatMap_append, List.take_append_drop]
    rw [this] at h4
    have h5 := congrArg (List.take (k * sz)) h4
    rw [List.take_take, Nat.min_eq_left (Nat.mul_le_mul_right _ hk), List.take_left' (by rw [flat_len henc, hlen])] at h5
    exact h5
theorem At.of_blk (henc : EncOk enc sz) {g : Nat} {t : TypeId} (h : Blk w g t (l.flatMap enc).toArray) : At enc sz w (some ⟨g, 0, none⟩) l :=
  At.of_flat henc fun j u hu => by
    have h1 := h.cell j
    have hadd : (⟨g, 0, none⟩ : Addr).add j = ⟨g, j, none⟩ := by unfold Addr.add; split <;> simp_all
    rw [hadd, h1]
    simpa using hu
end
section
variable {P : Program} {α : Type} {enc : α → List Value} {sz : Nat} {t e : TypeId} {w : World} {base : Nat} {v : Value} {l m : List α} {A : Option Addr}
theorem run_append_of_nil (hE : ElemOk P t e sz) (ty : TypeId) (hown : Own enc sz e w base v l) (c : Nat) : (Builtin.append_ #[t, t] ty #[v, .slice none 0 c]).run P w = .ok v w := by
  obtain ⟨i, z, ht, hi, _⟩ := hE
  rcases hown.2 with ⟨rfl, hl⟩ | ⟨g, cap, cur, rfl, _, _, hnc, _⟩
  · simp [Builtin.append_, run_underlying ht, sizeOf, typeInfo, hi, Builtin.lenOf, Builtin.firstCells]
  · simp [Builtin.append_, run_underlying ht, sizeOf, typeInfo, hi, Builtin.lenOf, Builtin.firstCells, hnc, storeCells]
theorem run_append (henc : EncOk enc sz) (hE : ElemOk P t e sz) (ty : TypeId) (hown : Own enc sz e w base v l) (c : Nat) (hm : At enc sz w A m) (hlen : l.length + m.length ≤ 2000000000) (hbase : base ≤ w.heap.size) :
    ∃ v' w', (Builtin.append_ #[t, t] ty #[v, .slice A m.length c]).run P w = .ok v' w' ∧ Own enc sz e w' base v' (l ++ m) ∧ Kp (fun b => v.ownBlock = some b) w w' ∧ (v'.ownBlock = v.ownBlock ∨ v'.ownBlock = some w.heap.size) := by
  have hE0 := hE
  obtain ⟨i, z, ht, hi, hz, hs, hby, hzs⟩ := hE
  rcases A with _ | ad
  · have hm0 : m = [] := by
      rcases m with _ | ⟨x, m⟩
      · rfl
      · obtain ⟨ad, h, _⟩ := hm 0 (by simp)
        cases h
    subst hm0
    refine ⟨v, w, run_append_of_nil hE0 ty hown c, by simpa using hown, Kp.refl _ _, .inl rfl⟩
  · have hfl : ∀ j u, (m.flatMap enc)[j]? = some u → w.cell? (ad.add j) = some u := fun j u hu => by
      obtain ⟨ad', h, hc⟩ := hm.flat henc j u hu
      cases h
      exact hc
    have hone : ∀ u ∈ m.flatMap enc, u.oneCell' = true := fun u hu => by
      obtain ⟨x, _, hx⟩ := List.mem_flatMap.1 hu
      exact henc.one x u hx
    obtain ⟨v', w', hrun, h2, h3, _, h5⟩ := run_append_own_at (P := P) w base t ty e i z sz i.bytes ht hi hz hs rfl hzs henc.pos v l.length (l.flatMap enc) hown ad m.length c (m.flatMap enc) (flat_len henc m) hfl hone
      (by simp only [maxLen]; omega) (by have h := Nat.mul_le_mul hlen hby; omega) hbase
    refine ⟨v', w', hrun, ?_, ⟨h3.os, h3.tape, h3.output, h3.size, fun k hk hs => h3.block k hk (fun h => hs h.symm)⟩, h5⟩
    unfold Own
    rw [List.length_append, List.flatMap_append]
    exact h2
theorem wp_append {o : Oper} {a : Act} {K : Act → World → Prop} {Q : Exit → Act → World → Prop} (henc : EncOk enc sz) (hE : ElemOk P t e sz) (s x : Operand)
    (ho : o.op = .call { callee := .builtin .append, args := #[s, x], argTypes := #[t, t] }) (hs : a.eval s = v) (hown : Own enc sz e w base v l) (c : Nat) (hx : a.eval x = .slice A m.length c)
    (hm : At enc sz w A m) (hlen : l.length + m.length ≤ 2000000000) (hbase : base ≤ w.heap.size)
    (h : ∀ v' w', Own enc sz e w' base v' (l ++ m) → Kp (fun b => v.ownBlock = some b) w w' → (v'.ownBlock = v.ownBlock ∨ v'.ownBlock = some w.heap.size) → K (a.put o.dst v') w') : o.wp P a w K Q := by
  obtain ⟨v', w', hrun, h2, h3, h4⟩ := run_append (P := P) henc hE o.type hown c hm hlen hbase
  unfold Oper.wp execOp
  simp only [ho, resolve, invoke, builtin, Sem.run_bind, Sem.run_pure, Result.andThen_ok, List.map_toArray, List.map_cons, List.map_nil, hs, hx, hrun]
  exact h v' w' h2 h3 h4
theorem wpl_append {ops : Array Oper} {rest : List Oper} {o : Oper} {a : Act} {Q : Exit → Act → World → Prop} (hgd : o.guard = none) (henc : EncOk enc sz) (hE : ElemOk P t e sz) (s x : Operand)
    (ho : o.op = .call { callee := .builtin .append, args := #[s, x], argTypes := #[t, t] }) (hs : a.eval s = v) (hown : Own enc sz e w base v l) (c : Nat) (hx : a.eval x = .slice A m.length c)
    (hm : At enc sz w A m) (hlen : l.length + m.length ≤ 2000000000) (hbase : base ≤ w.heap.size)
    (h : ∀ v' w', Own enc sz e w' base v' (l ++ m) → Kp (fun b => v.ownBlock = some b) w w' → (v'.ownBlock = v.ownBlock ∨ v'.ownBlock = some w.heap.size) → wpList P ops Q rest (a.put o.dst v') w') : wpList P ops Q (o :: rest) a w :=
  wpList_plain hgd fun _ hK => wp_append henc hE s x ho hs hown c hx hm hlen hbase fun v' w' h2 h3 h4 => hK _ _ (h v' w' h2 h3 h4)
end
theorem getD_map_range {α : Type} (f : Nat → α) (n j : Nat) : ((List.range n).map f)[j]? = if j < n then some (f j) else none := by
  simp only [List.getElem?_map]
  by_cases h : j < n
  · rw [if_pos h, List.getElem?_range h]; rfl
  · rw [if_neg h, List.getElem?_eq_none (by simpa using h)]; rfl
theorem zeroCells_flat {α : Type} {enc : α → List Value} {sz : Nat} (henc : EncOk enc sz) {z : Value} {zr : α} (hz : z.cells.toList = enc zr) (k : Nat) : (Builtin.zeroCells z.cells k).toList = (List.replicate k zr).flatMap enc := by
  have hs : z.cells.size = sz := by rw [← Array.length_toList, hz, henc.len]
  have hp := henc.pos
  have hl : (Builtin.zeroCells z.cells k).toList = (List.range (k * sz)).map fun i => z.cells[i % sz]! := by
    simp [Builtin.zeroCells, hs]
  rw [hl]
  apply List.ext_getElem?
  intro j
  rw [getD_map_range]
  by_cases hj : j < k * sz
  · rw [if_pos hj]
    have hi : j / sz < k := Nat.div_lt_of_lt_mul (by rw [Nat.mul_comm]; exact hj)
    have hjj : j = j / sz * sz + j % sz := by rw [Nat.mul_comm]; exact (Nat.div_add_mod j sz).symm
    have hm := Nat.mod_lt j hp
    conv => rhs; rw [hjj]
    rw [flat_get henc _ _ _ (by simpa using hi) hm, List.getElem_replicate, ← hz]
    simp [hs, hm]
  · rw [if_neg hj, List.getElem?_eq_none]
    rw [flat_len henc, List.length_replicate]
    omega
theorem own_alloc {α : Type} {enc : α → List Value} {sz : Nat} (henc : EncOk enc sz) {e : TypeId} {w : World} {base : Nat} (hb : base ≤ w.heap.size) (l : List α) (cs : Array Value) (cap : Nat) (hc : l.length ≤ cap) (hm : cap ≤ maxLen)
    (hs : cs.size = cap * sz) (ht : cs.toList.take (l.length * sz) = l.flatMap enc) : Own enc sz e (w.alloc (.cells cs e)) base (.slice (some ⟨w.heap.size, 0, none⟩) l.length cap) l :=
  ⟨flat_len henc l, .inr ⟨w.heap.size, cap, cs, rfl, hb, heap_alloc_new w _, hc, hm, hs, ht⟩⟩
/-- append(s, make([]E, k)...) where there is no room -/
theorem run_append_zeros {P : Program} {α : Type} {enc : α → List Value} {sz : Nat} {t e : TypeId} {w : World} {l : List α} {A : Option Addr} (henc : EncOk enc sz) (hE : ElemOk P t e sz) {z : Value} {zr : α} (hzv : (P.info? e).bind (·.zero) = some z) (hz : z.cells.toList = enc zr)
    (tn ty : TypeId) (htn : P.underlying tn = some (.int .i64)) (cap k : Nat) (hA : At enc sz w A l) (hk : 0 < k) (hg : cap < l.length + k) (hlen : l.length + k ≤ 2000000000) :
    ∃ c w', (Builtin.append_ #[t, tn] ty #[.slice A l.length cap, .int .i64 k]).run P w = .ok (.slice (some ⟨w.heap.size, 0, none⟩) (l.length + k) c) w' ∧
      Own enc sz e w' w.heap.size (.slice (some ⟨w.heap.size, 0, none⟩) (l.length + k) c) (l ++ List.replicate k zr) ∧ Gr w w' := by
  obtain ⟨i, z', ht, hi, hz', hs, hby, hzs⟩ := hE
  rw [hi] at hzv
  simp only [Option.bind_some] at hzv
  have hold : (Builtin.firstCells i.size l.length (.slice A l.length cap)).run P w.drew = .ok (l.flatMap enc).toArray w.drew := by
    rcases A with _ | ad
    · have : l = [] := by
        rcases l with _ | ⟨x, l⟩
        · rfl
        · obtain ⟨ad, h, _⟩ := hA 0 (by simp); cases h
      subst this
      exact run_firstCells_none _ _ _ _ _
    · refine run_firstCells_some (P := P) w.drew i.size l.length ad l.length cap _ (by rw [hs]; exact flat_len henc l) fun j u hu => ?_
      obtain ⟨ad', h, hc⟩ := hA.flat henc j u hu
      cases h
      exact hc
  have hb1 := Nat.mul_le_mul hlen hby
  have hb2 : k * i.bytes ≤ (l.length + k) * i.bytes := Nat.mul_le_mul_right _ (by omega)
  have hrun := Lib.run_append_grow_zeros (P := P) w t tn ty e i z .i64 .i64 ht htn hi hzv A l.length cap (l.flatMap enc) hold k hk (by rw [hs]; exact henc.pos) hg (by omega) (by omega) (growslice_fits hg (by omega))
  refine ⟨_, _, hrun, ?_, ⟨rfl, rfl, rfl, by simp, fun j hj _ => heap_alloc_old w.drew _ hj⟩⟩
  have hge := grownCap_ge w (l.length + k) cap e
  have hcm : grownCap w (l.length + k) cap e ≤ maxLen := grownCap_le_maxLen w (l.length + k) cap e (by simp only [maxLen]; omega)
  have hll : (l ++ List.replicate k zr).length = l.length + k := by simp
  have hcl := zeroCells_flat henc hz k
  have hzc : z.cells.size = sz := by rw [← Array.length_toList, hz, henc.len]
  have := own_alloc (e := e) (w := w.drew) (base := w.heap.size) henc (Nat.le_refl _) (l ++ List.replicate k zr) ((l.flatMap enc).toArray ++ Builtin.zeroCells z.cells k ++ Builtin.zeroCells z.cells (grownCap w (l.length + k) cap e - (l.length + k))) (grownCap w (l.length + k) cap e) (by rw [hll]; exact hge) hcm
    (by simp only [Array.size_append, List.size_toArray, size_zeroCells, hzc, flat_len henc, ← Nat.add_mul]; congr 1; omega)
    (by
      simp only [Array.toList_append, hcl, ← List.flatMap_append]
      rw [← flat_len henc]
      exact List.take_left)
  rw [hll] at this
  exact this
/-! ### The kinds of elements -/
theorem encR_ok : EncOk encR 2 := ⟨by decide, fun _ => rfl, fun x u h => by simp [encR] at h; rcases h with rfl | rfl <;> rfl⟩
theorem encS_ok : EncOk encS 1 := ⟨by decide, fun _ => rfl, fun x u h => by simp [encS] at h; subst h; rfl⟩
theorem encI_ok : EncOk encI 1 := ⟨by decide, fun _ => rfl, fun x u h => by simp [encI] at h; subst h; rfl⟩
theorem elem_of {P : Program} {t e : TypeId} {sz : Nat} {z : Value} {b : Nat} (ht : P.underlying t = some (.slice e)) (hi : (P.info? e).map (fun i => (i.zero, i.size, i.bytes)) = some (some z, sz, b)) (hb : b ≤ 64) (hz : z.cells.size = sz) : ElemOk P t e sz := by
  cases h : P.info? e with
  | none => rw [h] at hi; cases hi
  | some i =>
    rw [h] at hi
    simp only [Option.map_some, Option.some.injEq, Prod.mk.injEq] at hi
    exact ⟨i, z, ht, h, hi.1, hi.2.1, by omega, hz⟩
theorem elemR : ElemOk Try.prog 25 24 2 := elem_of (z := .agg #[.string ⟨#[]⟩, .string ⟨#[]⟩]) (b := 32) Try.underlying25 (by kernel_rfl) (by decide) rfl
theorem elemP : ElemOk Try.prog 99 70 2 := elem_of (z := .agg #[.string ⟨#[]⟩, .string ⟨#[]⟩]) (b := 32) Try.underlying99 (by kernel_rfl) (by decide) rfl
abbrev OwnR := Own encR 2 24
abbrev OwnP := Own encR 2 70
end Go.Proofs.Ytffghamcggadcaa
