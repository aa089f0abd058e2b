/- Reading the arguments of the statements: a list of rules that came in; the variable of the library's; handing everything back in a world that has only grown. -/
import Derived.Test.YtffghamcggadcaaWd
import Derived.Deep.SlicePairs
import Derived.HandedShaped
import Derived.Shelf.Vars
import Derived.Carry
import Derived.ProofKit
namespace Go.Proofs.Ytffghamcggadcaa
open Go.ChangeShapes Go.WideShapes Go.ChangeAt Go.RowKit
open Go.ChangeMaps (open_string shut_string)
set_option linter.unusedVariables false
theorem own_ : ownKnob Try.prog.godebug = none := by kernel_rfl
theorem laid_ : laidOutB Try.prog = true := by kernel_rfl
theorem cellsR_ : Try.prog.cellsOf 24 = 2 := by kernel_rfl
theorem cellsS_ : Try.prog.cellsOf 9 = 1 := by kernel_rfl
set_option maxRecDepth 100000 in
theorem fieldsR : ∃ f0 f1 : Field, Try.prog.underlying 24 = some (.struct #[f0, f1]) ∧ f0.offset = 0 ∧ f1.offset = 1 ∧ f0.type = 9 ∧ f1.type = 9 :=
  by
  refine ⟨_, _, Try.underlying24, ?_, ?_, ?_, ?_⟩ <;> kernel_rfl
section
variable {H : Type} {enc : TypeId × Value → H} {W : World} {base : Nat} {v : Value} {d : DataW H} {ps : List MemPlace}
set_option maxRecDepth 100000 in
theorem open_rules (hok : Value.okWide Try.prog W .any base 25 v) (h : DataW.Trod enc Try.prog W 0 (fun _ => true) true 25 v d ps) :
    ∃ (A : Option Addr) (l : List Rule) (c : Nat), v = .slice A l.length c ∧ l.length ≤ 9223372036854775807 ∧ (∀ r ∈ l, r.1.length ≤ 9223372036854775807 ∧ r.2.length ≤ 9223372036854775807) ∧ RAt W A l := by
  obtain ⟨a0, len, cap, rfl⟩ := okWide_slice Try.underlying25 hok
  obtain ⟨fuel, hf⟩ := h
  obtain ⟨f0, f1, hu, o0, o1, t0, t1⟩ := fieldsR
  rcases Go.Deep.open_slice_pairs Try.underlying25 hu cellsR_ o0 o1 (by rw [t0]; exact cellsS_) (by rw [t1]; exact cellsS_) hf with ⟨hcs, _⟩ | ⟨a, len', cap', m, n, V0, V1, D0, D1, P0, P1, hcs, _, hl, hm, hmm, _, hx⟩
  · simp [Value.cells] at hcs
    obtain ⟨rfl, rfl, rfl⟩ := hcs
    exact ⟨none, [], 0, rfl, by simp, by simp, At.nil _ _ _ _⟩
  · simp [Value.cells] at hcs
    obtain ⟨rfl, rfl, rfl⟩ := hcs
    have hlm : len ≤ m := by rw [hmm]; split <;> omega
    have each : ∀ i, i < len → ∃ q : Rule, W.cell? (a.add (i * 2)) = some (.string (B q.1)) ∧ W.cell? (a.add (i * 2 + 1)) = some (.string (B q.2)) ∧ q.1.length ≤ maxLen ∧ q.2.length ≤ maxLen := by
      intro i hi
      obtain ⟨h0, h1, h2, h3⟩ := hx i (by omega)
      rw [t0] at h2
      rw [t1] at h3
      obtain ⟨s0, e0, _, b0⟩ := DataW.trod_string Try.underlying9 h2
      obtain ⟨s1, e1, _, b1⟩ := DataW.trod_string Try.underlying9 h3
      simp only [List.cons.injEq, and_true] at e0 e1
      refine ⟨(s0.data.toList, s1.data.toList), ?_, ?_, b0, b1⟩
      · rw [h0, e0, ← B_of]
      · rw [h1, e1, ← B_of]
    obtain ⟨q, hq⟩ := Go.Deep.choose_lt each
    have hll : ((List.range len).map q).length = len := by simp
    refine ⟨some a, (List.range len).map q, cap, by rw [hll], by rw [hll]; simp only [maxLen] at hm; omega, ?_, ?_⟩
    · intro r hr
      obtain ⟨i, hi, rfl⟩ := List.mem_map.1 hr
      have h1 := hq i (List.mem_range.1 hi)
      simp only [maxLen] at h1
      omega
    · intro i hi
      have hi' : i < len := by simpa using hi
      refine ⟨a, rfl, fun j u hu => ?_⟩
      obtain ⟨h1, h2, _⟩ := hq i hi'
      rw [List.getElem_map, List.getElem_range] at hu
      match j, hu with
      | 0, hu => simp [encR] at hu; rw [← hu]; exact h1
      | 1, hu => simp [encR] at hu; rw [← hu]; exact h2
      | j + 2, hu => simp [encR] at hu
theorem read_again {t : TypeId} (hr : Try.prog.readableRec t = true) (ht : t < Try.prog.types.size) (h : DataW.Trod enc Try.prog W 0 (fun _ => true) true t v d ps) (hlt : ∀ x ∈ ps, x.block < W.heap.size) {W' : World} (hg : Gr W W') :
    DataW.Trod enc Try.prog W' 0 (fun b => decide (b < W.heap.size)) true t v d ps :=
  Below.trod laid_ hr ht h (hg.below (fun _ _ h => h) (Nat.le_refl _)) hlt
theorem gr_frame {W' : World} (hg : Gr W W') (S : MemPlace → Prop) : W.keptBut W' S := (hg.below (fun _ _ h => h) (Nat.le_refl _)).frame _
theorem glob_ (h : W.ShapedOpen Try.prog) : 0 < W.heap.size ∧ ∃ m, W.cell? ⟨0, 0, none⟩ = some (.int .i64 m) := by
  have h1 := cell_of_shapedOpen_int (P := Try.prog) (g := 0) (t := 3) (zero := #[.int .i64 0]) h (of_decide_eq_true (by kernel_rfl)) (by kernel_rfl) rfl (by kernel_rfl) (by kernel_rfl) Try.underlying3
  refine ⟨?_, h1⟩
  obtain ⟨m, hm⟩ := h1
  have := World.block_lt_of_cell? W _ hm
  exact this
end
end Go.Proofs.Ytffghamcggadcaa
