/- Reading more arguments: a list of numbers, a string, a number. -/
import Derived.Test.YtffghamcggadcaaJ0
import Derived.OpenShut
namespace Go.Proofs.Ytffghamcggadcaa
open Go.ChangeShapes Go.WideShapes Go.ChangeAt Go.RowKit
open Go.ChangeMaps (open_string shut_string)
set_option linter.unusedVariables false
theorem i64_bounds {n : Int} (h : (Lit.int .i64 n).wf = true) : -9223372036854775808 ≤ n ∧ n ≤ 9223372036854775807 := by
  simp only [Lit.wf, Bool.and_eq_true, decide_eq_true_eq] at h
  exact ⟨h.1, h.2⟩
section
variable {H : Type} {enc : TypeId × Value → H} {W : World} {base : Nat} {v : Value} {d : DataW H} {ps : List MemPlace}
theorem cellsI_ : Try.prog.cellsOf 3 = 1 := by kernel_rfl
set_option maxRecDepth 100000 in
theorem open_nums (hok : Value.okWide Try.prog W .any base 37 v) (h : DataW.Trod enc Try.prog W 0 (fun _ => true) true 37 v d ps) :
    ∃ (A : Option Addr) (l : List Int) (c : Nat), v = .slice A l.length c ∧ l.length ≤ 9223372036854775807 ∧ (∀ x ∈ l, -9223372036854775808 ≤ x ∧ x ≤ 9223372036854775807) ∧ IAt W A l := by
  obtain ⟨a0, len, cap, rfl⟩ := okWide_slice Try.underlying37 hok
  obtain ⟨fuel, hf⟩ := h
  rcases open_ints Try.underlying37 Try.underlying3 cellsI_ hf with ⟨hcs, _⟩ | ⟨a, len', cap', zs, hcs, _, hle, hm, hz, _, hx, hw⟩
  · simp [Value.cells] at hcs
    obtain ⟨rfl, rfl, rfl⟩ := hcs
    exact ⟨none, [], 0, rfl, by simp, by simp, At.nil _ _ _ _⟩
  · simp [Value.cells] at hcs
    obtain ⟨rfl, rfl, rfl⟩ := hcs
    have hlm : len ≤ zs.length := by rw [hz]; split <;> omega
    have hll : (zs.take len).length = len := by simp; omega
    refine ⟨some a, zs.take len, cap, by rw [hll], by rw [hll]; simp only [maxLen] at hm; omega, fun x hx' => i64_bounds (hw x (List.mem_of_mem_take hx')), ?_⟩
    intro i hi
    refine ⟨a, rfl, fun j u hu => ?_⟩
    have hi' : i < len := by rw [hll] at hi; exact hi
    have h1 := hx i (by omega)
    match j, hu with
    | 0, hu =>
      simp [encI] at hu
      rw [← hu, Nat.mul_one, Nat.add_zero, h1]
      simp [List.getD_eq_getElem?_getD, List.getElem?_eq_getElem (show i < zs.length from by omega)]
    | j + 1, hu => simp [encI] at hu
set_option maxRecDepth 100000 in
theorem open_str (hok : Value.okWide Try.prog W .any base 9 v) (h : DataW.Trod enc Try.prog W 0 (fun _ => true) true 9 v d ps) :
    ∃ s : Str, v = .string (B s) ∧ s.length ≤ 9223372036854775807 := by
  obtain ⟨s, rfl, _, _, hs⟩ := open_string Try.underlying9 hok h
  refine ⟨s.data.toList, by rw [← B_of], ?_⟩
  simp only [maxLen] at hs
  simpa using hs
set_option maxRecDepth 100000 in
theorem open_num (hok : Value.okWide Try.prog W .any base 3 v) (h : DataW.Trod enc Try.prog W 0 (fun _ => true) true 3 v d ps) :
    ∃ n : Int, v = .int .i64 n ∧ -9223372036854775808 ≤ n ∧ n ≤ 9223372036854775807 := by
  obtain ⟨n, rfl, _, _, hw⟩ := open_int Try.underlying3 hok h
  exact ⟨n, rfl, i64_bounds hw⟩
end
end Go.Proofs.Ytffghamcggadcaa
