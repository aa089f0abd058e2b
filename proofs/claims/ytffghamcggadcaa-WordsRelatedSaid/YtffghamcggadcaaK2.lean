/- Where all pairs of a system meet, all steps meet. -/
import Derived.Test.YtffghamcggadcaaK1
namespace Go.Proofs.Ytffghamcggadcaa
set_option linter.unusedVariables false
set_option linter.unusedSimpArgs false
theorem mem_pairs {l : List Rule} {i j : Nat} (hi : i < l.length) (hj : j < l.length) {p : Str × Str} (h : p ∈ overlaps l[i] l[j] (i == j)) : p ∈ pairs l := by
  unfold pairs
  refine List.mem_flatMap.2 ⟨(l[i], i), ?_, List.mem_flatMap.2 ⟨(l[j], j), ?_, h⟩⟩
  · exact List.mk_mem_zipIdx_iff_getElem?.2 (List.getElem?_eq_getElem hi)
  · exact List.mk_mem_zipIdx_iff_getElem?.2 (List.getElem?_eq_getElem hj)
theorem mem_overs {a b : Rule} {same : Bool} {k : Nat} (h1 : 1 ≤ k) (ha : k ≤ a.1.length) (hb : k ≤ b.1.length) (hs : b.1.take k <:+ a.1) (hn : ¬ (same = true ∧ k = a.1.length)) :
    (a.2 ++ b.1.drop k, a.1.take (a.1.length - k) ++ b.2) ∈ overlaps a b same := by
  refine List.mem_append.2 (.inl (List.mem_map.2 ⟨k - 1, List.mem_filter.2 ⟨List.mem_range.2 (by omega), ?_⟩, ?_⟩))
  · rw [show k - 1 + 1 = k from by omega]
    have h1 : suf (b.1.take k) a.1 = true := List.isSuffixOf_iff_suffix.2 hs
    rw [h1]
    cases same
    · simp
    · simp at hn; simpa using hn
  · rw [show k - 1 + 1 = k from by omega]
theorem mem_inners {a b : Rule} {k : Nat} (h1 : 1 ≤ k) (h2 : k + b.1.length < a.1.length) (hp : b.1 <+: a.1.drop k) : (a.2, replaced a.1 k b) ∈ overlaps a b false := by
  refine List.mem_append.2 (.inr ?_)
  unfold inners
  rw [if_neg (by simp)]
  refine List.mem_map.2 ⟨k - 1, List.mem_filter.2 ⟨List.mem_range.2 (by omega), ?_⟩, ?_⟩
  · rw [show k - 1 + 1 = k from by omega]
    exact List.isPrefixOf_iff_prefix.2 hp
  · rw [show k - 1 + 1 = k from by omega]
section
variable {l : List Rule}
/-- every pair meets -/
def Joins (l : List Rule) : Prop := ∀ p ∈ pairs l, ∃ c, Rew l p.1 c ∧ Rew l p.2 c
/-- two steps of one string, the first one not behind the second one -/
theorem meets_half (hJ : Joins l) (hne : ∀ r ∈ l, r.1 ≠ []) {i j : Nat} (hi : i < l.length) (hj : j < l.length) {u v w v' : Str} (h : l[i].1 ++ v = w ++ l[j].1 ++ v') :
    ∃ c, Rew l (u ++ l[i].2 ++ v) c ∧ Rew l (u ++ w ++ l[j].2 ++ v') c := by
  have nei := hne l[i] (List.getElem_mem hi)
  have nej := hne l[j] (List.getElem_mem hj)
  -- the same join, in a context
  have ctx : ∀ {a b : Str} (x y : Str), (∃ c, Rew l a c ∧ Rew l b c) → ∃ c, Rew l (x ++ a ++ y) c ∧ Rew l (x ++ b ++ y) c := by
    rintro a b x y ⟨c, h1, h2⟩
    exact ⟨x ++ c ++ y, h1.ctx x y, h2.ctx x y⟩
  rw [List.append_assoc] at h
  rcases List.append_eq_append_iff.1 h with ⟨w', e1, e2⟩ | ⟨z, e1, e2⟩
  · -- the second one begins behind the first one's end
    subst e2
    rw [e1]
    refine ⟨u ++ l[i].2 ++ w' ++ l[j].2 ++ v', ?_, ?_⟩
    · have := Rew.one (Step.ctx (Step.rule (List.getElem_mem hj)) (u ++ l[i].2 ++ w') v' (l := l))
      simpa using this
    · have := Rew.one (Step.ctx (Step.rule (List.getElem_mem hi)) u (w' ++ l[j].2 ++ v') (l := l))
      simpa using this
  · -- they overlap: the first one is w ++ z
    rcases List.append_eq_append_iff.1 e2 with ⟨z', e3, e4⟩ | ⟨z'', e3, e4⟩
    · -- the second one lies inside: z = l[j].1 ++ z'
      subst e4
      by_cases hz' : z' = []
      · subst hz'
        simp at e3
        subst e3
        by_cases htriv : i = j ∧ l[j].1.length = l[i].1.length
        · obtain ⟨rfl, _⟩ := htriv
          have hw : w = [] := by
            have := congrArg List.length e1
            rw [List.length_append] at this
            exact List.eq_nil_of_length_eq_zero (by omega)
          subst hw
          exact ⟨_, by simpa using Rew.refl _, by simpa using Rew.refl _⟩
        · have hk1 : 1 ≤ l[j].1.length := by
            cases hx : l[j].1 with
            | nil => exact absurd hx nej
            | cons => simp
          have hp := hJ _ (mem_pairs hi hj (mem_overs (a := l[i]) (b := l[j]) (same := i == j) (k := l[j].1.length) hk1 (by rw [e1]; simp) (Nat.le_refl _) (by rw [List.take_length, e1]; exact List.suffix_append _ _) (by rintro ⟨h1, h2⟩; exact htriv ⟨by simpa using h1, h2⟩)))
          have ht : l[i].1.take (l[i].1.length - l[j].1.length) = w := by rw [e1]; simp
          rw [List.drop_length, ht] at hp
          have := ctx u v hp
          simpa using this
      · have hzl : 1 ≤ z'.length := by cases z' with | nil => exact absurd rfl hz' | cons => simp
        have hlen := congrArg List.length e1
        rw [e3] at hlen
        simp only [List.length_append] at hlen
        have hij : i ≠ j := by
          rintro rfl
          omega
        have hs : (i == j) = false := by simpa using hij
        by_cases hw : w = []
        · subst hw
          have hs2 : (j == i) = false := by simpa using Ne.symm hij
          have hk1 : 1 ≤ l[j].1.length := by
            cases hx : l[j].1 with
            | nil => exact absurd hx nej
            | cons => simp
          simp at e1
          have hp := hJ _ (mem_pairs hj hi (mem_overs (a := l[j]) (b := l[i]) (same := j == i) (k := l[j].1.length) hk1 (Nat.le_refl _) (by rw [e1, e3]; simp) (by rw [e1, e3, List.take_left]; exact List.suffix_refl _) (by rw [hs2]; rintro ⟨h1, _⟩; cases h1)))
          have hd : l[i].1.drop l[j].1.length = z' := by rw [e1, e3, List.drop_left]
          rw [hd, Nat.sub_self, List.take_zero, List.nil_append] at hp
          obtain ⟨c, h1, h2⟩ := ctx u v hp
          exact ⟨c, by simpa using h2, by simpa using h1⟩
        · have hw1 : 1 ≤ w.length := by cases w with | nil => exact absurd rfl hw | cons => simp
          have hpre : l[j].1 <+: l[i].1.drop w.length := by rw [e1, e3, List.drop_left]; exact List.prefix_append _ _
          have hm := mem_inners (a := l[i]) (b := l[j]) (k := w.length) hw1 (by omega) hpre
          rw [← hs] at hm
          have hp := hJ _ (mem_pairs hi hj hm)
          have hr : replaced l[i].1 w.length l[j] = w ++ l[j].2 ++ z' := by
            unfold replaced
            rw [e1, e3, List.take_left]
            congr 1
            rw [← List.drop_drop, List.drop_left, List.drop_left]
          rw [hr] at hp
          have := ctx u v hp
          simpa using this
    · -- the second one is z ++ z''
      by_cases hz : z = []
      · subst hz
        simp at e1 e3
        subst e4
        rw [e3] at nej
        refine ⟨u ++ l[i].2 ++ l[j].2 ++ v', ?_, ?_⟩
        · have := Rew.one (Step.ctx (Step.rule (List.getElem_mem hj)) (u ++ l[i].2) v' (l := l))
          rw [e3] at this
          simpa using this
        · have := Rew.one (Step.ctx (Step.rule (List.getElem_mem hi)) u (l[j].2 ++ v') (l := l))
          rw [e1] at this
          simpa using this
      · by_cases htriv : i = j ∧ z.length = l[i].1.length
        · -- the same step twice
          obtain ⟨rfl, hlen⟩ := htriv
          have hw : w = [] := by
            have := congrArg List.length e1
            simp at this
            exact List.eq_nil_of_length_eq_zero (by omega)
          subst hw
          simp at e1
          have hz2 : z'' = [] := by
            have := congrArg List.length e3
            rw [e1] at this
            simp at this
            exact this
          subst hz2
          simp at e4
          subst e4
          exact ⟨_, by simpa using Rew.refl _, by simpa using Rew.refl _⟩
        · have hk1 : 1 ≤ z.length := by cases z with | nil => exact absurd rfl hz | cons => simp
          have hp := hJ _ (mem_pairs hi hj (mem_overs (a := l[i]) (b := l[j]) (same := i == j) (k := z.length) hk1 (by rw [e1]; simp) (by rw [e3]; simp) (by rw [e3, List.take_left, e1]; exact List.suffix_append _ _) (by rintro ⟨h1, h2⟩; exact htriv ⟨by simpa using h1, h2⟩)))
          have hd : l[j].1.drop z.length = z'' := by rw [e3, List.drop_left]
          have ht : l[i].1.take (l[i].1.length - z.length) = w := by rw [e1]; simp
          rw [hd, ht] at hp
          have := ctx u v' hp
          rw [e4]
          simpa using this
theorem meets_of_joins (hJ : Joins l) (hne : ∀ r ∈ l, r.1 ≠ []) : Meets l := by
  intro s a b ha hb
  obtain ⟨r, hr, u, v, rfl, rfl⟩ := ha
  obtain ⟨q, hq, u', v', e, rfl⟩ := hb
  obtain ⟨i, hi, rfl⟩ := List.getElem_of_mem hr
  obtain ⟨j, hj, rfl⟩ := List.getElem_of_mem hq
  rw [List.append_assoc, List.append_assoc] at e
  rcases List.append_eq_append_iff.1 e with ⟨w, e1, e2⟩ | ⟨w, e1, e2⟩
  · subst e1
    have := meets_half hJ hne hi hj (u := u) (v := v) (w := w) (v' := v') (by rw [List.append_assoc]; exact e2)
    exact this
  · subst e1
    obtain ⟨c, h1, h2⟩ := meets_half hJ hne hj hi (u := u') (v := v') (w := w) (v' := v) (by rw [List.append_assoc]; exact e2)
    exact ⟨c, h2, h1⟩
end
end Go.Proofs.Ytffghamcggadcaa
