/- Contracts of the statements' own helpers: equal lists, a cut string, a copy of the first rules. -/
import Derived.Test.YtffghamcggadcaaRo
import Derived.Test.YtffghamcggadcaaCp
import Derived.Test.YtffghamcggadcaaEx
namespace Go.Proofs.Ytffghamcggadcaa
open Go.RowKit Go.Maps
set_option linter.unusedVariables false
set_option linter.unusedSimpArgs false
attribute [local go_sem] B_size B_toList B_append B_extract B_get take_rest
set_option maxHeartbeats 1000000 in
set_option maxRecDepth 20000 in
theorem same_any (l m : List Rule) (A1 A2 : Option Addr) (c1 c2 : Nat) (w : World) (hn : l.length ≤ 1000000000) (hm : m.length ≤ 1000000000) (hl : RAt w A1 l) (hl2 : RAt w A2 m) :
    Calls Try.prog 19 #[.slice A1 l.length c1, .slice A2 m.length c2] w fun e w' => e = .returned (.bool (l == m)) ∧ Gr w w' := by
  have Hl := Lib.hid hl
  have Hm := Lib.hid hl2
  clear hl hl2
  by_cases hlen : l.length = m.length
  · have hne : ((l.length : Int) != (m.length : Int)) = false := by simp [hlen]
    have Hlen := Lib.hid hlen
    clear hlen
    go_enter Try.func19, Try.ntmps19
    go_wp2
    go_loopw [5] (fun vk wr => ∃ k : Nat, k ≤ l.length ∧ vk = .int .i64 k ∧ Hid (l.take k = m.take k) ∧ Hid (Gr w wr)) (fun vk _ => l.length - (intOf vk).toNat)
    case atStart => exact ⟨0, by omega, rfl, Lib.hid (by simp), Lib.hid (Kp.refl _ _)⟩
    case round =>
      obtain ⟨k, hk, rfl, ht, hg⟩ := hrel
      by_cases hlt : k < l.length
      · have hlt2 : k < m.length := by have := Hlen.out; omega
        obtain ⟨ad, rfl, h0, h1⟩ := RAt.get (Hl.out.gr hg.out) hlt
        obtain ⟨ad2, rfl, g0, g1⟩ := RAt.get (Hm.out.gr hg.out) hlt2
        have hq := fun w => neR w l[k] m[k]
        by_cases he : l[k] = m[k]
        · have he' : (l[k] == m[k]) = true := by simpa using he
          have He := Lib.hid he
          clear he
          go_wp2
          go_quiet (fail)
          go_wp2
          refine ⟨⟨k + 1, by omega, by go_num, Lib.hid ?_, Lib.hid (hg.out.drewN _)⟩, by simp [intOf]; omega⟩
          rw [List.take_succ_eq_append_getElem hlt, List.take_succ_eq_append_getElem hlt2, ht.out, He.out]
        · have he' : (l[k] == m[k]) = false := by simpa using he
          have He := Lib.hid he
          clear he
          go_wp2
          go_quiet (fail)
          go_wp2
          go_ret
          refine ⟨ret_bool ?_, hg.out.drewN _⟩
          symm
          rw [beq_eq_false_iff_ne]
          intro e
          subst e
          exact He.out rfl
      · go_wp2
        go_ret
        refine ⟨ret_bool ?_, hg.out⟩
        symm
        rw [beq_iff_eq]
        have h1 := ht.out
        rw [List.take_of_length_le (by omega), List.take_of_length_le (by have := Hlen.out; omega)] at h1
        exact h1
  · have hne : ((l.length : Int) != (m.length : Int)) = true := by simp; omega
    have hne' : ((l.length : Int) == (m.length : Int)) = false := by simp; omega
    have Hlen := Lib.hid hlen
    clear hlen
    go_enter Try.func19, Try.ntmps19
    go_wp2
    go_ret
    refine ⟨ret_bool ?_, Kp.refl _ _⟩
    symm
    rw [beq_eq_false_iff_ne]
    intro e
    exact Hlen.out (by rw [e])
theorem take_minI (s : Str) (n : Nat) : List.take (min (s.length : Int) (n : Int)).toNat s = s.take n := by
  by_cases h : s.length ≤ n
  · rw [show (min (s.length : Int) (n : Int)).toNat = s.length from by omega, List.take_length, List.take_of_length_le h]
  · rw [show (min (s.length : Int) (n : Int)).toNat = n from by omega]
/-- the copy of the first rules that the statements make -/
def cutN (l : List Rule) (most : Nat) : Nat := if 64 < l.length then 65 else min l.length most
def cut1 (r : Rule) : Rule := (r.1.take 25, r.2.take 25)
def cutRules (l : List Rule) (most : Nat) : List Rule := (l.take (cutN l most)).map cut1
theorem cutRules_len (l : List Rule) (most : Nat) (h : most ≤ 65) : (cutRules l most).length ≤ 65 := by
  unfold cutRules cutN
  simp
  split <;> omega
theorem cutRules_lens (l : List Rule) (most : Nat) : ∀ r ∈ cutRules l most, r.1.length ≤ 25 ∧ r.2.length ≤ 25 := by
  intro r hr
  obtain ⟨x, _, rfl⟩ := List.mem_map.1 hr
  simp [cut1]
  omega
end Go.Proofs.Ytffghamcggadcaa
