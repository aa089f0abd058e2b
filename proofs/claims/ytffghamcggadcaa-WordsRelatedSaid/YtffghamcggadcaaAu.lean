/- Contracts: the automaton's sums. -/
import Derived.Test.YtffghamcggadcaaEq
import Derived.Test.YtffghamcggadcaaAq
namespace Go.Proofs.Ytffghamcggadcaa
open Go.RowKit Go.Maps
set_option linter.unusedVariables false
set_option linter.unusedSimpArgs false
attribute [local go_sem] B_size B_toList B_append B_extract B_get take_rest
def totalV : Option Int → Value
  | none => .tuple #[.int .i64 0, .bool false]
  | some s => .tuple #[.int .i64 s, .bool true]
set_option maxHeartbeats 1000000 in
set_option maxRecDepth 20000 in
theorem total_any (l : List Int) (A : Option Addr) (c : Nat) (w : World) (hn : l.length ≤ 1000000000) (hp : ∀ n ∈ l, 0 ≤ n ∧ n ≤ 4611686018427387904) (hl : IAt w A l) :
    Calls Try.prog 27 #[.slice A l.length c] w fun e w' => e = .returned (totalV (totalN l 0)) ∧ Gr w w' := by
  have Hl := Lib.hid hl
  have Hp := Lib.hid hp
  clear hl hp
  go_enter Try.func27, Try.ntmps27
  go_wp2
  go_loopw [4, 9] (fun vs vi wr => ∃ (i : Nat) (t : Int), i ≤ l.length ∧ vi = .int .i64 i ∧ vs = .int .i64 t ∧ 0 ≤ t ∧ t ≤ 4611686018427387904 ∧ Hid (totalN l 0 = totalN (l.drop i) t) ∧ Hid (Gr w wr)) (fun _ vi _ => l.length - (intOf vi).toNat)
  case atStart => exact ⟨0, 0, by omega, rfl, rfl, by omega, by omega, rfl, Kp.refl _ _⟩
  case round =>
    obtain ⟨i, t, hi, rfl, rfl, ht0, ht1, hto, hg⟩ := hrel
    by_cases hlt : i < l.length
    · obtain ⟨ad, rfl, h0⟩ := IAt.get (Hl.out.gr hg.out) hlt
      obtain ⟨hn0, hn1⟩ := Hp.out l[i] (List.getElem_mem hlt)
      have hst : totalN (l.drop i) t = if 4611686018427387904 - t < l[i] then none else totalN (l.drop (i + 1)) (t + l[i]) := by
        rw [List.drop_eq_getElem_cons hlt]; rfl
      have Hst := Lib.hid hst
      clear hst
      by_cases hgt : 4611686018427387904 - t < l[i]
      · go_wp2
        go_ret2
        refine ⟨?_, hg.out⟩
        rw [hto.out, Hst.out, if_pos hgt]
        rfl
      · go_wp2
        exact ⟨⟨i + 1, t + l[i], by omega, by go_num, rfl, by omega, by omega, Lib.hid (by rw [hto.out, Hst.out, if_neg hgt]), hg⟩, by simp [intOf]; omega⟩
    · go_wp2
      go_ret2
      refine ⟨?_, hg.out⟩
      rw [hto.out, List.drop_eq_nil_of_le (by omega)]
      rfl
end Go.Proofs.Ytffghamcggadcaa
