/- Plain facts for the statement that related strings are not told apart. -/
import Derived.Test.YtffghamcggadcaaK3
import Derived.Test.YtffghamcggadcaaL5
namespace Go.Proofs.Ytffghamcggadcaa
set_option linter.unusedVariables false
set_option linter.unusedSimpArgs false
theorem conv_at {l : List Rule} {L R s : Str} {i : Nat} (h : Conv l L R) (hi : i + L.length ≤ s.length) (hp : pre L (s.drop i) = true) : Conv l s (s.take i ++ R ++ s.drop (i + L.length)) := by
  obtain ⟨y, hy⟩ := List.isPrefixOf_iff_prefix.1 hp
  have e1 : s.drop (i + L.length) = y := by rw [← List.drop_drop, ← hy, List.drop_left]
  have e2 : s = s.take i ++ L ++ s.drop (i + L.length) := by rw [e1, List.append_assoc, hy, List.take_append_drop]
  have := h.ctx (s.take i) (s.drop (i + L.length))
  rw [← e2] at this
  exact this
theorem letters_iff (s : Str) : letters s = true ↔ ∀ c ∈ s, 97 ≤ c.toNat ∧ c.toNat ≤ 104 := by
  unfold letters
  rw [List.all_eq_true]
  refine forall₂_congr fun c _ => ?_
  simp [UInt8.le_iff_toNat_le]
theorem letters_append {s t : Str} : letters (s ++ t) = true ↔ letters s = true ∧ letters t = true := by
  rw [letters_iff, letters_iff, letters_iff]
  simp only [List.mem_append]
  exact ⟨fun h => ⟨fun c hc => h c (.inl hc), fun c hc => h c (.inr hc)⟩, fun h c hc => hc.elim (h.1 c) (h.2 c)⟩
theorem letters_take {s : Str} (h : letters s = true) (n : Nat) : letters (s.take n) = true := by
  rw [letters_iff] at *
  exact fun c hc => h c (List.mem_of_mem_take hc)
theorem letters_drop {s : Str} (h : letters s = true) (n : Nat) : letters (s.drop n) = true := by
  rw [letters_iff] at *
  exact fun c hc => h c (List.mem_of_mem_drop hc)
theorem wordS_dig (s : Str) (most k : Nat) (hk1 : 1 ≤ k) (hk : k ≤ 8) : Dig k 96 (wordS s most k) := by
  intro c hc
  unfold wordS at hc
  obtain ⟨d, _, rfl⟩ := List.mem_map.1 hc
  have h := Nat.mod_lt d.toNat (show k > 0 from by omega)
  rw [letter_nat' _ (by omega)]
  omega
theorem tameS_dig (l : List Rule) (many most k : Nat) (hk1 : 1 ≤ k) (hk : k ≤ 8) : ∀ r ∈ tameS l many most k, Dig k 96 r.1 ∧ Dig k 96 r.2 := by
  intro r hr
  obtain ⟨x, _, rfl⟩ := List.mem_map.1 hr
  exact ⟨wordS_dig _ _ _ hk1 hk, wordS_dig _ _ _ hk1 hk⟩
theorem dig_letters {k : Nat} (hk : k ≤ 8) {s : Str} (h : Dig k 96 s) : letters s = true := by
  rw [letters_iff]
  intro c hc
  have := h c hc
  omega
/-- related strings: Equal does not say that they differ -/
theorem equal_related {eqs : List Rule} {n : Nat} {a c : Str} (hq : areEqs eqs n = true) (ha : isString a = true) (hc : isString c = true) (hd : ∀ r ∈ eqs, Dig 3 96 r.1 ∧ Dig 3 96 r.2) (h : Conv eqs a c) :
    EqualV eqs n a c = .tuple #[.int .i64 0, .int .i64 5] ∨ EqualV eqs n a c = .tuple #[.int .i64 1, .int .i64 0] ∨ EqualV eqs n a c = .tuple #[.int .i64 (-1), .int .i64 0] := by
  unfold EqualV
  rw [if_pos (by rw [hq, ha, hc]; rfl), show ((n : Nat) : Int).toNat = n from by simp]
  cases hm : complete eqs n with
  | none => exact .inl rfl
  | some p =>
    obtain ⟨m, cf⟩ := p
    simp only
    cases hx : nf m a with
    | none => exact .inl rfl
    | some x =>
      cases hy : nf m c with
      | none => exact .inl rfl
      | some y =>
        simp only
        by_cases hxy : x = y
        · rw [if_pos hxy]; exact .inr (.inl rfl)
        · rw [if_neg hxy]
          cases cf with
          | false => exact .inr (.inr rfl)
          | true => exact absurd (complete_equal (b := 3) (o := 96) (by omega) hd hm h hx hy) hxy
end Go.Proofs.Ytffghamcggadcaa
