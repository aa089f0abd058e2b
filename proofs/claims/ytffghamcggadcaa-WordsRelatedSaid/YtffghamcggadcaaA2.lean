/- Rows of numbers, rows of rows: words for memory, and laws for make and the map's first entry. -/
import Derived.Test.YtffghamcggadcaaA1
namespace Go.Proofs.Ytffghamcggadcaa
open Go.RowKit Go.Maps
set_option linter.unusedVariables false
set_option linter.unusedSimpArgs false
/-- a slice's description as an element -/
abbrev SD := Option Addr × Nat × Nat
def encV (d : SD) : List Value := [.slice d.1 d.2.1 d.2.2]
theorem encV_ok : EncOk encV 1 := ⟨by decide, fun _ => rfl, fun x u h => by simp [encV] at h; subst h; rfl⟩
theorem elemV : ElemOk Try.prog 60 37 1 := elem_of (z := .slice none 0 0) (b := 24) Try.underlying60 (by kernel_rfl) (by decide) rfl
theorem elemI : ElemOk Try.prog 37 3 1 := elem_of (z := .int .i64 0) (b := 8) Try.underlying37 (by kernel_rfl) (by decide) rfl
theorem elemS : ElemOk Try.prog 43 9 1 := elem_of (z := .string ⟨#[]⟩) (b := 16) Try.underlying43 (by kernel_rfl) (by decide) rfl
abbrev OwnI := Own encI 1 3
abbrev OwnS := Own encS 1 9
abbrev OwnV := Own encV 1 37
abbrev VAt := At encV 1
def cellsI (l : List Int) : Array Value := (l.map (Value.int .i64)).toArray
theorem flat_one {α : Type} (f : α → Value) : ∀ l : List α, (l.flatMap fun x => [f x]) = l.map f
  | [] => rfl
  | x :: l => by simp [flat_one f l]
theorem flatI (l : List Int) : l.flatMap encI = l.map (Value.int .i64) := flat_one _ l
theorem flatS (l : List Str) : l.flatMap encS = l.map fun s => Value.string (B s) := flat_one _ l
theorem cellsI_set (l : List Int) (i : Nat) (x : Int) : (cellsI l).setIfInBounds i (.int .i64 x) = cellsI (l.set i x) := by
  unfold cellsI
  rw [List.setIfInBounds_toArray, List.map_set]
theorem cellsI_get (l : List Int) (i : Nat) (h : i < l.length) : (cellsI l)[i]? = some (.int .i64 l[i]) := by simp [cellsI, h]
theorem Own.ofI {w : World} {b base : Nat} {l : List Int} (h : Blk w b 3 (cellsI l)) (hb : base ≤ b) (hl : l.length ≤ 1000000000) : OwnI w base (.slice (some ⟨b, 0, none⟩) l.length l.length) l :=
  ⟨flat_len encI_ok l, .inr ⟨b, l.length, cellsI l, rfl, hb, h, Nat.le_refl _, by simp only [maxLen]; omega, by simp [cellsI], by rw [flatI, List.take_of_length_le (by simp [cellsI])]; simp [cellsI]⟩⟩
theorem At.ofI {w : World} {b : Nat} {l : List Int} (h : Blk w b 3 (cellsI l)) : IAt w (some ⟨b, 0, none⟩) l := At.of_blk encI_ok (by rw [flatI]; exact h)
theorem Own.blk {α : Type} {enc : α → List Value} {sz : Nat} {e : TypeId} {w : World} {base g : Nat} {v : Value} {l : List α} (h : Own enc sz e w base v l) (hv : v.ownBlock = some g) : ∃ cs, Blk w g e cs := by
  rcases h.2 with ⟨rfl, _⟩ | ⟨g', cap, cur, rfl, hb, hgg, _⟩
  · cases hv
  · cases hv
    exact ⟨cur, hgg⟩
theorem Blk.type_inj {w : World} {g : Nat} {t u : TypeId} {cs ds : Array Value} (h : Blk w g t cs) (h' : Blk w g u ds) : t = u := by
  unfold Blk at *
  rw [h] at h'
  injection h' with h'
  injection h'
/-- the rows of a table, each one's own -/
def RowsOk (w : World) (base : Nat) (ds : List SD) (tab : List (List Int)) : Prop :=
  ds.length = tab.length ∧ ∀ i (h : i < ds.length) (h' : i < tab.length), ds[i].2.1 = tab[i].length ∧ OwnI w base (.slice ds[i].1 ds[i].2.1 ds[i].2.2) tab[i]
theorem RowsOk.nil (w : World) (base : Nat) : RowsOk w base [] [] := ⟨rfl, fun i h => absurd h (by simp)⟩
theorem RowsOk.kp {S : Nat → Prop} {w w' : World} {base : Nat} {ds : List SD} {tab : List (List Int)} (h : RowsOk w base ds tab) (hk : Kp S w w') (hs : ∀ b cs, base ≤ b → Blk w b 3 cs → ¬ S b) : RowsOk w' base ds tab :=
  ⟨h.1, fun i h1 h2 => ⟨(h.2 i h1 h2).1, (h.2 i h1 h2).2.kp hk fun b hb => by
    obtain ⟨cs, hc⟩ := (h.2 i h1 h2).2.blk hb
    exact hs b cs ((h.2 i h1 h2).2.lt hb).1 hc⟩⟩
theorem RowsOk.gr {w w' : World} {base : Nat} {ds : List SD} {tab : List (List Int)} (h : RowsOk w base ds tab) (hk : Gr w w') : RowsOk w' base ds tab := h.kp hk fun _ _ _ _ h => h
theorem RowsOk.snoc {w : World} {base : Nat} {ds : List SD} {tab : List (List Int)} {A : Option Addr} {c : Nat} {row : List Int} (h : RowsOk w base ds tab) (hr : OwnI w base (.slice A row.length c) row) : RowsOk w base (ds ++ [(A, row.length, c)]) (tab ++ [row]) := by
  have hl := h.1
  refine ⟨by simp [hl], fun i h1 h2 => ?_⟩
  simp at h1 h2
  by_cases e : i < ds.length
  · have e' : i < tab.length := by omega
    simp only [List.getElem_append_left e, List.getElem_append_left e']
    exact h.2 i e e'
  · obtain rfl : i = ds.length := by omega
    have e1 : (ds ++ [(A, row.length, c)])[ds.length]'(by simp) = (A, row.length, c) := by simp
    have e2 : (tab ++ [row])[ds.length]'(by simp; omega) = row := by simp [hl]
    rw [e1, e2]
    exact ⟨rfl, hr⟩
/-- address a holds a slice of the rows of a table -/
def TabAt (w : World) (a : Addr) (tab : List (List Int)) : Prop :=
  ∃ NA NC ds, w.cell? a = some (.slice NA tab.length NC) ∧ VAt w NA ds ∧ ds.length = tab.length ∧ ∀ i (h : i < ds.length) (h' : i < tab.length), ds[i].2.1 = tab[i].length ∧ IAt w ds[i].1 tab[i]
theorem TabAt.gr {w w' : World} {a : Addr} {tab : List (List Int)} (h : TabAt w a tab) (hk : Gr w w') : TabAt w' a tab := by
  obtain ⟨NA, NC, ds, h1, h2, h3, h4⟩ := h
  exact ⟨NA, NC, ds, Gr.cell hk h1, h2.gr hk, h3, fun i a b => ⟨(h4 i a b).1, (h4 i a b).2.gr hk⟩⟩
theorem TabAt.len {w : World} {a : Addr} {tab : List (List Int)} (h : TabAt w a tab) : ∃ NA NC, w.cell? a = some (.slice NA tab.length NC) := by
  obtain ⟨NA, NC, ds, h1, _⟩ := h
  exact ⟨NA, NC, h1⟩
theorem VAt.get {w : World} {A : Option Addr} {l : List SD} (h : VAt w A l) {i : Nat} (hi : i < l.length) :
    ∃ ad, A = some ad ∧ w.cell? (ad.add i) = some (.slice l[i].1 l[i].2.1 l[i].2.2) := by
  obtain ⟨ad, e, hc⟩ := h i hi
  exact ⟨ad, e, by have := hc 0 _ rfl; simpa using this⟩
theorem wpl_insert {P : Program} {w w' : World} {ops : Array Oper} {rest : List Oper} {o : Oper} {a : Act} {Q : Exit → Act → World → Prop} (hgd : o.guard = none) (m x v : Operand) (t : TypeId)
    (ho : o.op = Op.insert t m x v) (vm vx vv : Value) (hm : a.eval m = vm) (hx : a.eval x = vx) (hv : a.eval v = vv) (hrun : (Instr.mapUpdate t vm vx vv).run P w = .ok () w')
    (h : wpList P ops Q rest (a.put o.dst undef) w') : wpList P ops Q (o :: rest) a w := by
  refine wpList_plain hgd fun K hK => ?_
  unfold Oper.wp
  simp [execOp, ho, hm, hx, hv, hrun, Result.andThen]
  exact hK _ _ h
theorem wpl_storeM {P : Program} {w w' : World} {ops : Array Oper} {rest : List Oper} {o : Oper} {a : Act} {Q : Exit → Act → World → Prop} (hgd : o.guard = none) (m x v : Operand) (t : TypeId)
    (ho : o.op = Op.mapUpdate t m x v) (vm vx vv : Value) (hm : a.eval m = vm) (hx : a.eval x = vx) (hv : a.eval v = vv) (hrun : (Instr.mapUpdate t vm vx vv).run P w = .ok () w')
    (h : wpList P ops Q rest (a.put o.dst undef) w') : wpList P ops Q (o :: rest) a w := by
  refine wpList_plain hgd fun K hK => ?_
  unfold Oper.wp
  simp [execOp, ho, hm, hx, hv, hrun, Result.andThen]
  exact hK _ _ h
/-- make([]int, n) -/
theorem wpl_make {w : World} {ops : Array Oper} {rest : List Oper} {o : Oper} {a : Act} {Q : Exit → Act → World → Prop} (hgd : o.guard = none) (x y : Operand)
    (ho : o.op = Op.makeSlice 37 x y) (n : Nat) (hx : a.eval x = .int .i64 n) (hy : a.eval y = .int .i64 n) (hn : n ≤ 1000000000)
    (h : ∀ w', Blk w' w.heap.size 3 (cellsI (List.replicate n 0)) → Gr w w' → w.heap.size < w'.heap.size → wpList Try.prog ops Q rest (a.put o.dst (.slice (some ⟨w.heap.size, 0, none⟩) n n)) w') : wpList Try.prog ops Q (o :: rest) a w := by
  obtain ⟨i, z, ht, hi, hz, hs, hby, hzs⟩ := elemI
  have hz0 : z = .int .i64 0 := by
    have h1 : (Try.prog.info? 3).map (·.zero) = some (some (.int .i64 0)) := by kernel_rfl
    rw [hi] at h1
    simp only [Option.map_some, Option.some.injEq] at h1
    rw [hz] at h1
    injection h1
  have hb : i.bytes * n ≤ 281474976710656 := by have := Nat.mul_le_mul hby hn; omega
  refine wpList_make_full w hgd x y 37 ho w.heap.size 3 i z 1 ht hi hz hs .i64 .i64 n n n hx hy rfl rfl hb (by simp only [maxLen]; omega) (Nat.le_refl _) ?_
  intro w' hown hgrow
  rcases hown.2 with ⟨hc, _⟩ | ⟨g, cap, cur, hv, hb', hgg, h1, h2, h3, h4⟩
  · cases hc
  · injection hv with e1 e2 e3
    cases e1
    subst e3
    have hcur : cur = cellsI (List.replicate n 0) := by
      apply Array.toList_inj.1
      rw [Nat.mul_one] at h3 h4
      rw [← Array.length_toList] at h3
      rw [List.take_of_length_le (by omega)] at h4
      rw [h4, hz0]
      show (madeCells #[Value.int .i64 0] n).toList = _
      rw [toList_madeCells_one]
      simp [cellsI]
    refine h w' ?_ ⟨hgrow.os, hgrow.tape, hgrow.output, hgrow.size, fun k hk hs => hgrow.block k hk (fun e => by cases e)⟩ ?_
    · rw [← hcur]; exact hgg
    · exact (Array.getElem?_eq_some_iff.1 hgg).1
end Go.Proofs.Ytffghamcggadcaa
