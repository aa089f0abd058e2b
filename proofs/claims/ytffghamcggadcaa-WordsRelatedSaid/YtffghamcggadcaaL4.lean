/- Plain facts on tame equations and their rules; rows of two strings of any such type, written. -/
import Derived.Test.YtffghamcggadcaaL3
import Derived.Test.YtffghamcggadcaaEq
namespace Go.Proofs.Ytffghamcggadcaa
open Go.RowKit Go.Maps
set_option linter.unusedVariables false
set_option linter.unusedSimpArgs false
theorem Own.cellG {ty : TypeId} {w : World} {base g n c : Nat} {l : List Rule} (h : Own encR 2 ty w base (.slice (some ⟨g, 0, none⟩) n c) l) {i : Nat} (hi : i < l.length) :
    w.cell? ⟨g, i * 2, none⟩ = some (.string (B l[i].1)) ∧ w.cell? ⟨g, i * 2 + 1, none⟩ = some (.string (B l[i].2)) ∧ w.frozen? ⟨g, i * 2, none⟩ = false ∧ w.frozen? ⟨g, i * 2 + 1, none⟩ = false := by
  have hn : n = l.length := by
    rcases h.2 with ⟨hv, _⟩ | ⟨g', cap, cur, hv, _⟩
    · cases hv
    · injection hv
  subst hn
  obtain ⟨ad, he, h0, h1⟩ := RAt.get (Own.at_ encR_ok h) hi
  cases he
  have hadd : (⟨g, 0, none⟩ : Addr).add (i * 2) = ⟨g, i * 2, none⟩ := by unfold Addr.add; split <;> simp_all
  rw [hadd] at h0 h1
  refine ⟨h0, h1, ?_, ?_⟩
  all_goals
    rcases h.2 with ⟨hv, _⟩ | ⟨g', cap, cur, hv, _, hgg, _⟩
    · cases hv
    · injection hv with hA
      cases hA
      simp [World.frozen?, hgg]
/-- element i is written -/
theorem Own.setG {ty : TypeId} {w : World} {base g n c : Nat} {l : List Rule} (h : Own encR 2 ty w base (.slice (some ⟨g, 0, none⟩) n c) l) {i : Nat} (hi : i < l.length) (x : Rule) :
    Own encR 2 ty ((w.setCell ⟨g, i * 2, none⟩ (.string (B x.1))).setCell ⟨g, i * 2 + 1, none⟩ (.string (B x.2))) base (.slice (some ⟨g, 0, none⟩) n c) (l.set i x) := by
  rcases h.2 with ⟨hv, _⟩ | ⟨g', cap, cur, hv, hb, hgg, h1, h2, h3, h4⟩
  · cases hv
  · injection hv with hA hn hc
    cases hA
    subst hn
    subst hc
    refine ⟨by rw [flat_len encR_ok], .inr ⟨g, c, (cur.setIfInBounds (i * 2) (.string (B x.1))).setIfInBounds (i * 2 + 1) (.string (B x.2)), by rw [List.length_set], hb, ((Blk.set_ (hgg : Blk w g _ cur) _ _).set_ _ _ : Blk _ _ _ _), by rw [List.length_set]; exact h1, h2, by simpa using h3, ?_⟩⟩
    rw [List.length_set]
    apply List.ext_getElem?
    intro j
    by_cases hj : j < l.length * 2
    · rw [List.getElem?_take, if_pos hj]
      have hjc : j < cur.size := by rw [h3]; omega
      have hm := Nat.mod_lt j (show 0 < 2 by decide)
      have hq : j / 2 < l.length := by omega
      have e0 : (cur.toList.take (l.length * 2))[j]? = (l.flatMap encR)[j]? := by rw [h4]
      rw [List.getElem?_take, if_pos hj] at e0
      rw [show j = j / 2 * 2 + j % 2 from by omega] at e0 ⊢
      rw [flat_get encR_ok l _ _ hq hm] at e0
      rw [flat_get encR_ok (l.set i x) _ _ (by simpa using hq) hm]
      simp only [Array.toList_setIfInBounds, List.getElem?_set]
      by_cases hij : i = j / 2
      · subst hij
        simp only [List.getElem_set_self]
        rcases Nat.mod_two_eq_zero_or_one j with hz | hz
        · rw [hz]; simp [encR, show j / 2 * 2 < cur.size by omega]
        · rw [hz]; simp [encR, show j / 2 * 2 + 1 < cur.size by omega]
      · rw [if_neg (by omega), if_neg (by omega), e0, List.getElem_set_ne hij]
    · rw [List.getElem?_take, if_neg hj, List.getElem?_eq_none (by rw [flat_len encR_ok, List.length_set]; omega)]

theorem letter_range (d : Nat) (h : d < 8) : (97 ≤ letter d && letter d ≤ 104) = true := by
  have h1 := letter_nat' d (by omega)
  simp only [Bool.and_eq_true, decide_eq_true_eq, UInt8.le_iff_toNat_le, h1]
  constructor <;> simp <;> omega
theorem wordS_letters (s : Str) (most k : Nat) (hk1 : 1 ≤ k) (hk : k ≤ 8) : letters (wordS s most k) = true := by
  unfold letters wordS
  rw [List.all_map, List.all_eq_true]
  intro c _
  exact letter_range _ (by have := Nat.mod_lt c.toNat (show k > 0 from by omega); omega)
theorem tameS_isEq (l : List Rule) (many most k : Nat) (hk1 : 1 ≤ k) (hk : k ≤ 8) (hm : most ≤ 24) : ∀ r ∈ tameS l many most k, isEq r = true := by
  intro r hr
  obtain ⟨x, _, rfl⟩ := List.mem_map.1 hr
  unfold isEq isSide
  have h1 := wordS_len x.1 most k
  have h2 := wordS_len x.2 most k
  simp only [wordS_letters _ _ _ hk1 hk, Bool.and_true, Bool.and_eq_true, decide_eq_true_eq]
  omega
theorem directed_gt {a b : Str} (h : a ≠ b) : gt (directed a b).1 (directed a b).2 = true := by
  unfold directed
  by_cases h1 : orderS a b < 0
  · rw [if_pos h1]; exact gt_iff.2 h1
  · rw [if_neg h1]
    refine gt_iff.2 ?_
    have h2 := os_anti a b
    have h3 : orderS a b ≠ 0 := fun h' => h (os_eq h')
    show orderS b a < 0
    omega
theorem directed_cases (a b : Str) : directed a b = (a, b) ∨ directed a b = (b, a) := by
  unfold directed
  by_cases h : orderS a b < 0
  · rw [if_pos h]; exact .inr rfl
  · rw [if_neg h]; exact .inl rfl
theorem oriented_isRule {l : List Rule} (h : ∀ r ∈ l, isEq r = true) : ∀ r ∈ oriented l, isRule r = true := by
  intro r hr
  unfold oriented at hr
  obtain ⟨x, hx, rfl⟩ := List.mem_map.1 hr
  obtain ⟨hx1, hx2⟩ := List.mem_filter.1 hx
  have hne : x.1 ≠ x.2 := by simpa using hx2
  unfold isRule
  rw [directed_gt hne, Bool.and_true]
  have h1 := h x hx1
  unfold isEq at h1 ⊢
  rcases directed_cases x.1 x.2 with e | e <;> rw [e]
  · exact h1
  · rw [Bool.and_comm]; exact h1
theorem oriented_system {l : List Rule} (h : ∀ r ∈ l, isEq r = true) (hl : l.length ≤ 64) : isSystem (oriented l) = true := by
  unfold isSystem
  have := oriented_len l
  rw [Bool.and_eq_true, decide_eq_true_eq, List.all_eq_true]
  exact ⟨by omega, oriented_isRule h⟩
theorem tame_areEqs (l : List Rule) (many most k n : Nat) (hk1 : 1 ≤ k) (hk : k ≤ 8) (hm : most ≤ 24) (hmany : many ≤ 64) (hn : n ≤ 12) : areEqs (tameS l many most k) n = true := by
  unfold areEqs
  have := tameS_len l many most k
  simp only [Bool.and_eq_true, decide_eq_true_eq, List.all_eq_true]
  exact ⟨⟨⟨by omega, tameS_isEq l many most k hk1 hk hm⟩, by omega⟩, by omega⟩
theorem oriented_lens {l : List Rule} {M : Nat} (h : ∀ r ∈ l, r.1.length ≤ M ∧ r.2.length ≤ M) : ∀ r ∈ oriented l, r.1.length ≤ M ∧ r.2.length ≤ M := by
  intro r hr
  unfold oriented at hr
  obtain ⟨x, hx, rfl⟩ := List.mem_map.1 hr
  have := h x (List.mem_filter.1 hx).1
  rcases directed_cases x.1 x.2 with e | e <;> rw [e] <;> simp <;> omega
theorem cutRules_same {l : List Rule} {most : Nat} (hl : l.length ≤ most) (hm : most ≤ 64) (h : ∀ r ∈ l, r.1.length ≤ 25 ∧ r.2.length ≤ 25) : cutRules l most = l := by
  unfold cutRules cutN
  rw [if_neg (by omega), List.take_of_length_le (by omega)]
  have : ∀ r ∈ l, cut1 r = r := fun r hr => by
    have := h r hr
    unfold cut1
    rw [List.take_of_length_le (by omega), List.take_of_length_le (by omega)]
  rw [List.map_congr_left this, List.map_id']
end Go.Proofs.Ytffghamcggadcaa
