/- Contracts of the reference: letters, strings, equations, the order, an occurrence. -/
import Derived.Test.YtffghamcggadcaaC3
import Derived.WalkLawsBesides
namespace Go.Proofs.Ytffghamcggadcaa
open Go.RowKit
set_option linter.unusedVariables false
set_option linter.unusedSimpArgs false
attribute [local go_sem] B_size B_toList B_append B_extract B_get take_rest
set_option maxHeartbeats 400000 in
theorem refLetters_any (s : Str) (w : World) (hs : s.length ≤ 1000000000) :
    Calls Try.prog 58 #[.string (B s)] w fun e w' => e = .returned (.bool (letters s)) ∧ w' = w := by
  go_enter Try.func58, Try.ntmps58
  go_wp2
  go_loop [3] (fun i => ∃ k : Nat, k ≤ s.length ∧ i = .int .i64 k ∧ letters (s.take k) = true) (fun i => s.length - (intOf i).toNat)
  case atStart => exact ⟨0, Nat.zero_le _, rfl, rfl⟩
  case round =>
    obtain ⟨k, hk, rfl, hl⟩ := hrel
    by_cases hlt : k < s.length
    · by_cases h1 : 97 ≤ (s[k].toNat : Int)
      · by_cases h2 : (s[k].toNat : Int) ≤ 104
        · go_wp2
          go_round
          case rel => exact ⟨k + 1, by omega, by go_num, letters_snoc s k hlt hl h1 h2⟩
          case measure => simp [intOf]; omega
        · go_wp2
          go_ret
          exact ⟨ret_bool (letters_bad s k hlt (.inr (by omega))).symm, rfl⟩
      · go_wp2
        go_ret
        exact ⟨ret_bool (letters_bad s k hlt (.inl (by omega))).symm, rfl⟩
    · go_wp2
      go_ret
      rw [List.take_of_length_le (by omega)] at hl
      exact ⟨ret_bool hl.symm, rfl⟩
set_option maxHeartbeats 400000 in
theorem refEquation_any (l r : Str) (w : World) (hl : l.length ≤ 1000000000) (hr : r.length ≤ 1000000000) :
    Calls Try.prog 36 #[.agg #[.string (B l), .string (B r)]] w fun e w' => e = .returned (.bool (isEq (l, r))) ∧ Gr w w' := by
  by_cases h1 : l.length ≤ 24
  · by_cases h2 : r.length ≤ 24
    · rcases h3 : letters l with _ | _
      all_goals
        go_enter Try.func36, Try.ntmps36
        go_wp2_with (go_at_call 58; refine (refLetters_any _ _ (by assumption)).mono ?_; rintro e w' ⟨rfl, rfl⟩; try rw [h3])
        go_ret
        exact ⟨ret_bool (by simp [isEq, isSide, h1, h2, h3]), (Kp.refl _ _).alloc _⟩
    · go_enter Try.func36, Try.ntmps36
      go_wp2
      go_ret
      exact ⟨ret_bool (by simp [isEq, isSide, h1, h2]), (Kp.refl _ _).alloc _⟩
  · go_enter Try.func36, Try.ntmps36
    go_wp2
    go_ret
    exact ⟨ret_bool (by simp [isEq, isSide, h1]), (Kp.refl _ _).alloc _⟩
theorem bytesLess_cmp : ∀ a b : Str, (!Op.bytesLess a b && !a == b) = decide (0 < Lib.compareBytes a b)
  | [], [] => by simp [Lib.compareBytes, Op.bytesLess]
  | [], _ :: _ => by simp [Lib.compareBytes, Op.bytesLess]
  | _ :: _, [] => by simp [Lib.compareBytes, Op.bytesLess]
  | a :: x, b :: y => by
    have ih := bytesLess_cmp x y
    unfold Lib.compareBytes Op.bytesLess
    by_cases h1 : a < b
    · rw [if_pos h1]
      simp [h1]
    · by_cases h2 : b < a
      · have hne : a ≠ b := fun e => h1 (e ▸ h2)
        rw [if_neg h1, if_pos h2]
        simp [h1, hne]
      · rw [if_neg h1, if_neg h2]
        have e : a = b := UInt8.le_antisymm (UInt8.not_lt.1 h2) (UInt8.not_lt.1 h1)
        subst e
        rw [← ih]
        simp
set_option maxHeartbeats 400000 in
theorem greater_any (a b : Str) (w : World) (ha : a.length ≤ 1000000000) (hb : b.length ≤ 1000000000) :
    Calls Try.prog 22 #[.string (B a), .string (B b)] w fun e w' => e = .returned (.bool (gt a b)) ∧ w' = w := by
  by_cases h : a.length = b.length
  · have hne : ((a.length : Int) != (b.length : Int)) = false := by simp [h]
    have hc : orderS a b = Lib.compareBytes a b := by unfold orderS orI; rw [if_pos (cmpN_zero.2 h)]
    have Hh := Lib.hid h
    clear h
    go_enter Try.func22, Try.ntmps22
    go_wp2
    go_ret
    refine ⟨ret_bool ?_, rfl⟩
    rw [gt, hc, ← bytesLess_cmp]
  · have hne : ((a.length : Int) != (b.length : Int)) = true := by simp; omega
    have hne' : ((a.length : Int) == (b.length : Int)) = false := by simp; omega
    have Hh := Lib.hid h
    clear h
    go_enter Try.func22, Try.ntmps22
    go_wp2
    go_ret
    refine ⟨ret_bool ?_, rfl⟩
    have h := Hh.out
    unfold gt orderS orI cmpN
    by_cases h1 : a.length < b.length
    · rw [if_pos h1]; simp; omega
    · have h2 : b.length < a.length := by omega
      rw [if_neg h1, if_pos h2]; simp [h2]
end Go.Proofs.Ytffghamcggadcaa
