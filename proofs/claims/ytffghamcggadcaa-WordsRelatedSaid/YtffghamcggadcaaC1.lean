/- Contracts of the small functions: comparing, prefixes, letters, the first step, a replacement, the normal form. Conditions: the lengths stay within int. -/
import Derived.Test.YtffghamcggadcaaWd
namespace Go.Proofs.Ytffghamcggadcaa
open Go.RowKit
set_option linter.unusedVariables false
set_option linter.unusedSimpArgs false
attribute [local go_sem] B_size B_toList B_append B_extract B_get take_rest
set_option maxHeartbeats 400000 in
theorem isNaN_any (a : Int) (w : World) :
    Calls Try.prog 78 #[.int .i64 a] w fun e w' => e = .returned (.bool false) ∧ w' = w := by
  go_enter Try.func78, Try.ntmps78
  go_wp2
  go_ret
  simp
set_option maxHeartbeats 400000 in
theorem cmpInt_any (a b : Nat) (w : World) :
    Calls Try.prog 66 #[.int .i64 a, .int .i64 b] w fun e w' => e = .returned (.int .i64 (cmpN a b)) ∧ w' = w := by
  by_cases h1 : a < b
  all_goals by_cases h2 : b < a
  all_goals
    go_enter Try.func66, Try.ntmps66
    go_wp2_with (go_at_call 78; refine (isNaN_any _ _).mono ?_; rintro e w' ⟨rfl, rfl⟩)
    go_ret
    exact ⟨ret_int (by unfold cmpN; split <;> (try split) <;> omega), rfl⟩
set_option maxHeartbeats 400000 in
set_option maxRecDepth 100000 in
theorem compareB_any (a b : Str) (w : World) :
    Calls Try.prog 79 #[.string (B a), .string (B b)] w fun e w' => e = .returned (.int .i64 (Lib.compareBytes a b)) ∧ w' = w := by
  go_enter Try.func79, Try.ntmps79
  go_wp2
  rw [run_callFunc_extern Try.func95 (by kernel_rfl) (by kernel_rfl) (by kernel_rfl) (e := Extern.BytealgCompare.compare) (by kernel_rfl), Lib.run_compareString]
  simp only [Result.andThen]
  rw [Oper.upon_value]
  go_wp2
  go_ret
  exact ⟨rfl, rfl⟩
set_option maxHeartbeats 400000 in
theorem compareS_any (a b : Str) (w : World) :
    Calls Try.prog 67 #[.string (B a), .string (B b)] w fun e w' => e = .returned (.int .i64 (Lib.compareBytes a b)) ∧ w' = w := by
  go_enter Try.func67, Try.ntmps67
  go_wp2_with (go_at_call 79; refine (compareB_any _ _ _).mono ?_; rintro e w' ⟨rfl, rfl⟩)
  go_ret
  exact ⟨rfl, rfl⟩
set_option maxHeartbeats 400000 in
theorem hasPrefix_lite (s t : Str) (w : World) :
    Calls Try.prog 80 #[.string (B s), .string (B t)] w fun e w' => e = .returned (.bool (pre t s)) ∧ w' = w := by
  by_cases h1 : t.length ≤ s.length
  all_goals
    go_enter Try.func80, Try.ntmps80
    go_wp2
    go_ret
    refine ⟨ret_bool ?_, rfl⟩
  · have h := prefix_take s t
    exact (by simpa using h)
  · exact (prefix_long s t h1).symm
set_option maxHeartbeats 400000 in
theorem hasPrefix_any (s t : Str) (w : World) :
    Calls Try.prog 68 #[.string (B s), .string (B t)] w fun e w' => e = .returned (.bool (pre t s)) ∧ w' = w := by
  go_enter Try.func68, Try.ntmps68
  go_wp2_with (go_at_call 80; refine (hasPrefix_lite _ _ _).mono ?_; rintro e w' ⟨rfl, rfl⟩)
  go_ret
  exact ⟨rfl, rfl⟩
set_option maxHeartbeats 400000 in
theorem hasSuffix_lite (s t : Str) (w : World) (hs : s.length ≤ 1000000000) (ht : t.length ≤ 1000000000) :
    Calls Try.prog 77 #[.string (B s), .string (B t)] w fun e w' => e = .returned (.bool (suf t s)) ∧ w' = w := by
  by_cases h1 : t.length ≤ s.length
  all_goals
    go_enter Try.func77, Try.ntmps77
    go_wp2
    go_ret
    refine ⟨ret_bool ?_, rfl⟩
  · have h := suffix_drop s t
    exact h
  · exact (suffix_long s t h1).symm
set_option maxHeartbeats 400000 in
theorem hasSuffix_any (s t : Str) (w : World) (hs : s.length ≤ 1000000000) (ht : t.length ≤ 1000000000) :
    Calls Try.prog 64 #[.string (B s), .string (B t)] w fun e w' => e = .returned (.bool (suf t s)) ∧ w' = w := by
  go_enter Try.func64, Try.ntmps64
  go_wp2_with (go_at_call 77; refine (hasSuffix_lite _ _ _ hs ht).mono ?_; rintro e w' ⟨rfl, rfl⟩)
  go_ret
  exact ⟨rfl, rfl⟩
set_option maxHeartbeats 400000 in
theorem replaced_any (s l r : Str) (i : Nat) (w : World) (h : i + l.length ≤ s.length) (hs : s.length ≤ 1000000000) (hr : r.length ≤ 1000000000) :
    Calls Try.prog 50 #[.string (B s), .int .i64 i, .agg #[.string (B l), .string (B r)]] w
      fun e w' => e = .returned (.string (B (replaced s i (l, r)))) ∧ Gr w w' := by
  go_enter Try.func50, Try.ntmps50
  go_wp2
  go_quiet (fail)
  go_wp2
  go_ret
  refine ⟨ret_str ?_, ((Kp.refl _ _).alloc _).drewN _⟩
  simp [replaced]
set_option maxHeartbeats 400000 in
theorem letters_any (s : Str) (w : World) (hs : s.length ≤ 1000000000) :
    Calls Try.prog 46 #[.string (B s)] w fun e w' => e = .returned (.bool (letters s)) ∧ w' = w := by
  go_enter Try.func46, Try.ntmps46
  go_wp2
  go_loop [6] (fun i => ∃ k : Nat, k ≤ s.length ∧ i = .int .i64 k ∧ letters (s.take k) = true) (fun i => s.length - (intOf i).toNat)
  case atStart => exact ⟨0, Nat.zero_le _, rfl, rfl⟩
  case round =>
    obtain ⟨k, hk, rfl, hl⟩ := hrel
    by_cases hlt : k < s.length
    · by_cases h1 : 97 ≤ (s[k].toNat : Int)
      · by_cases h2 : (s[k].toNat : Int) ≤ 104
        · go_wp2
          go_round
          case rel => exact ⟨k + 1, by omega, by go_num, letters_snoc s k hlt hl h1 h2⟩
          case measure => simp [intOf]; omega
        · go_wp2
          go_ret
          exact ⟨ret_bool (letters_bad s k hlt (.inr (by omega))).symm, rfl⟩
      · go_wp2
        go_ret
        exact ⟨ret_bool (letters_bad s k hlt (.inl (by omega))).symm, rfl⟩
    · go_wp2
      go_ret
      rw [List.take_of_length_le (by omega)] at hl
      exact ⟨ret_bool hl.symm, rfl⟩
set_option maxHeartbeats 400000 in
theorem isSide_any (s : Str) (w : World) (hs : s.length ≤ 1000000000) :
    Calls Try.prog 60 #[.string (B s)] w fun e w' => e = .returned (.bool (isSide s)) ∧ w' = w := by
  by_cases h : s.length ≤ 24
  all_goals
    go_enter Try.func60, Try.ntmps60
    go_wp2_with (go_at_call 46; refine (letters_any _ _ hs).mono ?_; rintro e w' ⟨rfl, rfl⟩)
    go_ret
    exact ⟨ret_bool (by simp [isSide, h]), rfl⟩
set_option maxHeartbeats 400000 in
theorem isString_any (s : Str) (w : World) (hs : s.length ≤ 1000000000) :
    Calls Try.prog 29 #[.string (B s)] w fun e w' => e = .returned (.bool (isString s)) ∧ w' = w := by
  by_cases h : s.length ≤ 200
  all_goals
    go_enter Try.func29, Try.ntmps29
    go_wp2_with (go_at_call 46; refine (letters_any _ _ hs).mono ?_; rintro e w' ⟨rfl, rfl⟩)
    go_ret
    exact ⟨ret_bool (by simp [isString, h]), rfl⟩
set_option maxHeartbeats 400000 in
theorem isEquation_any (l r : Str) (w : World) (hl : l.length ≤ 1000000000) (hr : r.length ≤ 1000000000) :
    Calls Try.prog 39 #[.agg #[.string (B l), .string (B r)]] w fun e w' => e = .returned (.bool (isEq (l, r))) ∧ Gr w w' := by
  by_cases h : isSide l = true
  all_goals
    go_enter Try.func39, Try.ntmps39
    go_wp2_with (go_at_call 60; refine (isSide_any _ _ (by assumption)).mono ?_; rintro e w' ⟨rfl, rfl⟩)
    go_ret
    exact ⟨ret_bool (by simp [isEq, h]), (Kp.refl _ _).alloc _⟩
set_option maxHeartbeats 400000 in
theorem orInt_any (x y : Int) (g c : Nat) (w : World) (h0 : w.cell? ⟨g, 0, none⟩ = some (.int .i64 x)) (h1 : w.cell? ⟨g, 1, none⟩ = some (.int .i64 y)) :
    Calls Try.prog 65 #[.slice (some ⟨g, 0, none⟩) 2 c] w fun e w' => e = .returned (.int .i64 (orI x y)) ∧ w' = w := by
  have hor : orI x y = if x = 0 then y else x := rfl
  have Hor := Lib.hid hor
  clear hor
  by_cases hx : x = 0
  · subst hx
    by_cases hy : y = 0
    · subst hy
      go_enter Try.func65, Try.ntmps65
      go_wp2
      refine wp_loop_rounds 3 ?_
      rw [rounds_succ]
      go_wp2
      rw [rounds_succ]
      go_wp2
      rw [rounds_succ]
      go_wp2
      go_ret
      exact ⟨ret_int (by rw [Hor.out]; rfl), rfl⟩
    · have hy' : (y != 0) = true := by simpa using hy
      go_enter Try.func65, Try.ntmps65
      go_wp2
      refine wp_loop_rounds 2 ?_
      rw [rounds_succ]
      go_wp2
      rw [rounds_succ]
      go_wp2
      go_ret
      exact ⟨ret_int (by rw [Hor.out]; rfl), rfl⟩
  · have hx' : (x != 0) = true := by simpa using hx
    go_enter Try.func65, Try.ntmps65
    go_wp2
    refine wp_loop_rounds 1 ?_
    rw [rounds_succ]
    go_wp2
    go_ret
    exact ⟨ret_int (by rw [Hor.out, if_neg hx]), rfl⟩
set_option maxHeartbeats 400000 in
theorem order_any (a b : Str) (w : World) (ha : a.length ≤ 1000000000) (hb : b.length ≤ 1000000000) :
    Calls Try.prog 48 #[.string (B a), .string (B b)] w fun e w' => e = .returned (.int .i64 (orderS a b)) ∧ Gr w w' := by
  go_enter Try.func48, Try.ntmps48
  go_wp2_with (first
    | (go_at_call 66; refine (cmpInt_any _ _ _).mono ?_; rintro e w' ⟨rfl, rfl⟩)
    | (go_at_call 67; refine (compareS_any _ _ _).mono ?_; rintro e w' ⟨rfl, rfl⟩)
    | (go_at_call 65; refine (orInt_any (cmpN a.length b.length) (Lib.compareBytes a b) _ _ _ (by go_simp) (by go_simp)).mono ?_; rintro e w' ⟨rfl, rfl⟩))
  go_ret
  exact ⟨ret_int (by rfl), (Kp.refl _ _).alloc _⟩
end Go.Proofs.Ytffghamcggadcaa
