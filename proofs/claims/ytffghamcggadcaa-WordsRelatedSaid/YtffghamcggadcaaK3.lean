/- What Complete keeps, in plain Lean: its system relates the sides of every equation; where it says that the system is confluent, related strings have one normal form. -/
import Derived.Test.YtffghamcggadcaaK2
namespace Go.Proofs.Ytffghamcggadcaa
set_option linter.unusedVariables false
set_option linter.unusedSimpArgs false
section
variable {b o : Nat}
/-- a rule over the digits, from the greater side to the lesser one -/
def RuleD (b o : Nat) (r : Rule) : Prop := Dig b o r.1 ∧ Dig b o r.2 ∧ gt r.1 r.2 = true
def RulesD (b o : Nat) (l : List Rule) : Prop := ∀ r ∈ l, RuleD b o r
theorem RuleD.low {r : Rule} (h : RuleD b o r) : Low b o r := low_of h.1 h.2.1 h.2.2
theorem RulesD.low {l : List Rule} (h : RulesD b o l) : ∀ r ∈ l, Low b o r := fun r hr => (h r hr).low
theorem RulesD.mono {l m : List Rule} (h : RulesD b o l) (hs : ∀ r ∈ m, r ∈ l) : RulesD b o m := fun r hr => h r (hs r hr)
theorem gt_directed {a c : Str} (h : a ≠ c) : gt (directed a c).1 (directed a c).2 = true := by
  unfold directed
  by_cases h1 : orderS a c < 0
  · rw [if_pos h1]; exact gt_iff.2 h1
  · rw [if_neg h1]
    refine gt_iff.2 ?_
    have h2 := os_anti a c
    have h3 : orderS a c ≠ 0 := fun h' => h (os_eq h')
    show orderS c a < 0
    omega
theorem directed_or (a c : Str) : directed a c = (a, c) ∨ directed a c = (c, a) := by
  unfold directed
  by_cases h : orderS a c < 0
  · rw [if_pos h]; exact .inr rfl
  · rw [if_neg h]; exact .inl rfl
theorem RuleD.directed {a c : Str} (ha : Dig b o a) (hc : Dig b o c) (h : a ≠ c) : RuleD b o (directed a c) := by
  refine ⟨?_, ?_, gt_directed h⟩ <;> rcases directed_or a c with e | e <;> rw [e] <;> assumption
theorem Step.dig {l : List Rule} (hl : RulesD b o l) {s t : Str} (h : Step l s t) (hs : Dig b o s) : Dig b o t := by
  obtain ⟨r, hr, u, v, rfl, rfl⟩ := h
  rw [Dig.append, Dig.append] at hs ⊢
  exact ⟨⟨hs.1.1, (hl r hr).2.1⟩, hs.2⟩
theorem Rew.dig {l : List Rule} (hl : RulesD b o l) {s t : Str} (h : Rew l s t) (hs : Dig b o s) : Dig b o t := by
  induction h with
  | refl => exact hs
  | step h _ ih => exact ih (h.dig hl hs)
theorem Dig.take {s : Str} (h : Dig b o s) (n : Nat) : Dig b o (s.take n) := fun c hc => h c (List.mem_of_mem_take hc)
theorem Dig.drop {s : Str} (h : Dig b o s) (n : Nat) : Dig b o (s.drop n) := fun c hc => h c (List.mem_of_mem_drop hc)
theorem conv_directed {l : List Rule} {a c : Str} (h : directed a c ∈ l) : Conv l a c := by
  rcases directed_or a c with e | e
  · rw [e] at h; exact .fwd (Step.rule (r := (a, c)) h) (.refl _)
  · rw [e] at h; exact .bwd (Step.rule (r := (c, a)) h) (.refl _)
theorem forms_conv {l : List Rule} {p : Str × Str} {x y : Str} (h : forms l p = some (x, y)) : Conv l p.1 x ∧ Conv l p.2 y := ⟨(forms_rew h).1.1.conv, (forms_rew h).2.1.conv⟩
theorem oriented_rel (eqs : List Rule) : Rel eqs (oriented eqs) := fun r hr => by
  by_cases h : r.1 = r.2
  · rw [h]; exact .refl _
  · refine conv_directed (List.mem_map.2 ⟨r, List.mem_filter.2 ⟨hr, by simpa using h⟩, rfl⟩)
theorem oriented_dig {eqs : List Rule} (h : ∀ r ∈ eqs, Dig b o r.1 ∧ Dig b o r.2) : RulesD b o (oriented eqs) := by
  intro r hr
  obtain ⟨x, hx, rfl⟩ := List.mem_map.1 hr
  obtain ⟨h1, h2⟩ := List.mem_filter.1 hx
  exact RuleD.directed (h x h1).1 (h x h1).2 (by simpa using h2)
theorem wrongFrom_mem (l : List Rule) : ∀ (m : List Rule) (j k : Nat) (r : Rule), m = l.drop j → wrongFrom l m j = some (k, r) → ∃ h : k < l.length, l[k] = r
  | [], j, k, r, _, h => by simp [wrongFrom] at h
  | x :: m, j, k, r, hm, h => by
    have hj : j < l.length := by
      rcases Nat.lt_or_ge j l.length with h' | h'
      · exact h'
      · rw [List.drop_eq_nil_of_le h'] at hm; cases hm
    rw [List.drop_eq_getElem_cons hj] at hm
    injection hm with e1 e2
    unfold wrongFrom at h
    split at h
    · exact wrongFrom_mem l m (j + 1) k r e2 h
    · simp only [Option.some.injEq, Prod.mk.injEq] at h
      obtain ⟨rfl, rfl⟩ := h
      exact ⟨hj, e1.symm⟩
theorem mem_erase_or {l : List Rule} {k : Nat} (hk : k < l.length) {r : Rule} (h : r ∈ l) : r = l[k] ∨ r ∈ l.eraseIdx k := by
  obtain ⟨i, hi, rfl⟩ := List.getElem_of_mem h
  by_cases e : i = k
  · subst e; exact .inl rfl
  · refine .inr ?_
    rw [List.mem_eraseIdx_iff_getElem]
    exact ⟨i, hi, e, rfl⟩
theorem tidyN_rel : ∀ (n : Nat) (l m : List Rule), RulesD b o l → tidyN n l = some m → Rel l m ∧ RulesD b o m
  | n, l, m, hd, h => by
    cases hw : wrong l with
    | none =>
      unfold tidyN at h
      rw [hw] at h
      simp only [Option.some.injEq] at h
      subst h
      exact ⟨Rel.refl _, hd⟩
    | some p =>
      obtain ⟨k, r⟩ := p
      cases n with
      | zero => unfold tidyN at h; rw [hw] at h; cases h
      | succ n =>
        unfold tidyN at h
        rw [hw] at h
        simp only at h
        obtain ⟨hk, hkr⟩ := wrongFrom_mem l l 0 k r rfl hw
        have hde : RulesD b o (l.eraseIdx k) := hd.mono fun x hx => List.mem_of_mem_eraseIdx hx
        cases hf : forms (l.eraseIdx k) r with
        | none => rw [hf] at h; cases h
        | some q =>
          obtain ⟨x, y⟩ := q
          rw [hf] at h
          simp only at h
          obtain ⟨c1, c2⟩ := forms_conv hf
          obtain ⟨⟨r1, _⟩, ⟨r2, _⟩⟩ := forms_rew hf
          have hrd := hd r (hkr ▸ List.getElem_mem hk)
          by_cases hxy : x = y
          · rw [if_pos hxy] at h
            obtain ⟨g1, g2⟩ := tidyN_rel n _ m hde h
            refine ⟨Rel.trans (fun z hz => ?_) g1, g2⟩
            rcases mem_erase_or hk hz with rfl | hz
            · rw [hkr]; subst hxy; exact c1.trans c2.symm
            · exact .fwd (Step.rule hz) (.refl _)
          · rw [if_neg hxy] at h
            have hdp : RulesD b o (put (directed x y) (l.eraseIdx k)) := fun z hz => by
              rcases put_mem.1 hz with rfl | hz
              · exact RuleD.directed (r1.dig hde hrd.1) (r2.dig hde hrd.2.1) hxy
              · exact hde z hz
            obtain ⟨g1, g2⟩ := tidyN_rel n _ m hdp h
            refine ⟨Rel.trans (fun z hz => ?_) g1, g2⟩
            have sub : Rel (l.eraseIdx k) (put (directed x y) (l.eraseIdx k)) := fun z hz => .fwd (Step.rule (put_mem.2 (.inr hz))) (.refl _)
            rcases mem_erase_or hk hz with rfl | hz
            · rw [hkr]
              exact ((sub.conv c1).trans (conv_directed (put_mem.2 (.inl rfl)))).trans (sub.conv c2).symm
            · exact sub z hz
theorem foldl_put_mem (l : List Rule) : ∀ (out : List Rule) (x : Rule), x ∈ l.foldl (fun out r => put r out) out ↔ x ∈ l ∨ x ∈ out := by
  induction l with
  | nil => intro out x; simp
  | cons r l ih =>
    intro out x
    rw [List.foldl_cons, ih, put_mem, List.mem_cons]
    constructor
    · rintro (h | h | h) <;> simp [h]
    · rintro ((h | h) | h) <;> simp [h]
theorem tidy_rel {l m : List Rule} (hd : RulesD b o l) (h : tidy l = some m) : Rel l m ∧ RulesD b o m := by
  have hp : ∀ x, x ∈ putAll l ↔ x ∈ l := fun x => by unfold putAll; rw [foldl_put_mem]; simp
  obtain ⟨h1, h2⟩ := tidyN_rel 2000 (putAll l) m (hd.mono fun r hr => (hp r).1 hr) h
  exact ⟨fun r hr => h1 r ((hp r).2 hr), h2⟩
theorem settle_rel {l m : List Rule} (hd : RulesD b o l) (h : settle l = some m) : Rel l m ∧ RulesD b o m := by
  unfold settle at h
  split at h
  · cases h
  · cases ht : tidy l with
    | none => rw [ht] at h; cases h
    | some x =>
      rw [ht] at h
      simp only at h
      split at h
      · cases h; exact tidy_rel hd ht
      · cases h
theorem pairs_dig {l : List Rule} (hd : RulesD b o l) {p : Str × Str} (h : p ∈ pairs l) : Dig b o p.1 ∧ Dig b o p.2 := by
  unfold pairs at h
  obtain ⟨x, hx, h⟩ := List.mem_flatMap.1 h
  obtain ⟨y, hy, h⟩ := List.mem_flatMap.1 h
  have mem : ∀ z ∈ l.zipIdx, z.1 ∈ l := fun z hz => by
    obtain ⟨_, _, e⟩ := List.mem_zipIdx hz
    rw [e]; exact List.getElem_mem _
  have dx := hd x.1 (mem x hx)
  have dy := hd y.1 (mem y hy)
  rcases List.mem_append.1 h with h | h
  · obtain ⟨k, _, rfl⟩ := List.mem_map.1 h
    exact ⟨Dig.append.2 ⟨dx.2.1, dy.1.drop _⟩, Dig.append.2 ⟨dx.1.take _, dy.2.1⟩⟩
  · unfold inners at h
    split at h
    · cases h
    · obtain ⟨k, _, rfl⟩ := List.mem_map.1 h
      unfold replaced
      exact ⟨dx.2.1, Dig.append.2 ⟨Dig.append.2 ⟨dx.1.take _, dy.2.1⟩, dx.1.drop _⟩⟩
theorem fresh_dig {l : List Rule} (hd : RulesD b o l) : ∀ (ps : List (Str × Str)) (out : List Rule), (∀ p ∈ ps, Dig b o p.1 ∧ Dig b o p.2) → fresh l ps = some out → RulesD b o out
  | [], out, _, h => by simp [fresh] at h; subst h; intro r hr; cases hr
  | p :: ps, out, hp, h => by
    unfold fresh at h
    cases hf : forms l p with
    | none => rw [hf] at h; cases h
    | some q =>
      obtain ⟨x, y⟩ := q
      rw [hf] at h
      simp only at h
      cases hr : fresh l ps with
      | none => rw [hr] at h; cases h
      | some o2 =>
        rw [hr] at h
        simp only [Option.some.injEq] at h
        have ih := fresh_dig hd ps o2 (fun q hq => hp q (List.mem_cons_of_mem _ hq)) hr
        have hpp := hp p List.mem_cons_self
        obtain ⟨⟨r1, _⟩, ⟨r2, _⟩⟩ := forms_rew hf
        by_cases hxy : x = y
        · rw [if_pos hxy] at h; subst h; exact ih
        · rw [if_neg hxy] at h
          subst h
          intro z hz
          rcases List.mem_cons.1 hz with rfl | hz
          · exact RuleD.directed (r1.dig hd hpp.1) (r2.dig hd hpp.2) hxy
          · exact ih z hz
/-- all pairs have one normal form each -/
def Closed1 (l : List Rule) : Prop := ∀ p ∈ pairs l, ∃ x, forms l p = some (x, x)
theorem clashFrom_none {l : List Rule} : ∀ (ps : List (Str × Str)) (i : Nat), clashFrom l ps i = some none → ∀ p ∈ ps, ∃ x, forms l p = some (x, x)
  | [], _, _, p, hp => by cases hp
  | q :: ps, i, h, p, hp => by
    unfold clashFrom at h
    cases hf : forms l q with
    | none => rw [hf] at h; cases h
    | some xy =>
      obtain ⟨x, y⟩ := xy
      rw [hf] at h
      simp only at h
      by_cases hxy : x = y
      · rw [if_pos hxy] at h
        rcases List.mem_cons.1 hp with rfl | hp
        · exact ⟨x, by rw [hf, hxy]⟩
        · exact clashFrom_none ps (i + 1) h p hp
      · rw [if_neg hxy] at h; cases h
theorem fresh_nil {l : List Rule} : ∀ (ps : List (Str × Str)), fresh l ps = some [] → ∀ p ∈ ps, ∃ x, forms l p = some (x, x)
  | [], _, p, hp => by cases hp
  | q :: ps, h, p, hp => by
    unfold fresh at h
    cases hf : forms l q with
    | none => rw [hf] at h; cases h
    | some xy =>
      obtain ⟨x, y⟩ := xy
      rw [hf] at h
      simp only at h
      cases hr : fresh l ps with
      | none => rw [hr] at h; cases h
      | some o2 =>
        rw [hr] at h
        simp only [Option.some.injEq] at h
        by_cases hxy : x = y
        · rw [if_pos hxy] at h
          subst h
          rcases List.mem_cons.1 hp with rfl | hp
          · exact ⟨x, by rw [hf, hxy]⟩
          · exact fresh_nil ps hr p hp
        · rw [if_neg hxy] at h; cases h
theorem fresh_of_closed {l : List Rule} : ∀ (ps : List (Str × Str)), (∀ p ∈ ps, ∃ x, forms l p = some (x, x)) → fresh l ps = some []
  | [], _ => rfl
  | q :: ps, h => by
    obtain ⟨x, hx⟩ := h q List.mem_cons_self
    unfold fresh
    rw [hx, fresh_of_closed ps fun p hp => h p (List.mem_cons_of_mem _ hp)]
    simp
theorem rounds_rel : ∀ (k : Nat) (l m : List Rule) (cf : Bool), RulesD b o l → rounds k l = some (m, cf) → Rel l m ∧ RulesD b o m ∧ (cf = true → Closed1 m)
  | 0, l, m, cf, hd, h => by
    unfold rounds at h
    cases hc : clash l with
    | none => rw [hc] at h; cases h
    | some c =>
      rw [hc] at h
      simp only [Option.some.injEq, Prod.mk.injEq] at h
      obtain ⟨rfl, rfl⟩ := h
      refine ⟨Rel.refl _, hd, fun h1 => ?_⟩
      cases c with
      | none => exact clashFrom_none _ 0 hc
      | some i => cases h1
  | k + 1, l, m, cf, hd, h => by
    unfold rounds at h
    cases hf : fresh l (pairs l) with
    | none => rw [hf] at h; cases h
    | some more =>
      rw [hf] at h
      cases more with
      | nil =>
        simp only [Option.some.injEq, Prod.mk.injEq] at h
        obtain ⟨rfl, rfl⟩ := h
        exact ⟨Rel.refl _, hd, fun _ => fresh_nil _ hf⟩
      | cons r more =>
        simp only at h
        cases hs : settle (l ++ r :: more) with
        | none => rw [hs] at h; cases h
        | some x =>
          rw [hs] at h
          simp only at h
          have hm := fresh_dig hd (pairs l) _ (fun p hp => pairs_dig hd hp) hf
          have hdl : RulesD b o (l ++ r :: more) := fun z hz => (List.mem_append.1 hz).elim (hd z) (hm z)
          obtain ⟨g1, g2⟩ := settle_rel hdl hs
          obtain ⟨g3, g4, g5⟩ := rounds_rel k x m cf g2 h
          exact ⟨fun z hz => g3.conv (g1 z (List.mem_append.2 (.inl hz))), g4, g5⟩
theorem complete_rel {eqs m : List Rule} {k : Nat} {cf : Bool} (hd : ∀ r ∈ eqs, Dig b o r.1 ∧ Dig b o r.2) (h : complete eqs k = some (m, cf)) : Rel eqs m ∧ RulesD b o m ∧ (cf = true → Closed1 m) := by
  unfold complete at h
  cases hs : settle (oriented eqs) with
  | none => rw [hs] at h; cases h
  | some l =>
    rw [hs] at h
    obtain ⟨g1, g2⟩ := settle_rel (oriented_dig hd) hs
    obtain ⟨g3, g4, g5⟩ := rounds_rel k l m cf g2 h
    exact ⟨((oriented_rel eqs).trans g1).trans g3, g4, g5⟩
/-- related strings have one normal form -/
theorem closed_nf {m : List Rule} (hb : 0 < b) (hd : RulesD b o m) (hc : Closed1 m) {s t x y : Str} (h : Conv m s t) (hx : nf m s = some x) (hy : nf m t = some y) : x = y := by
  have hne : ∀ r ∈ m, r.1 ≠ [] := fun r hr => (hd r hr).low.ne
  have hJ : Joins m := fun p hp => by
    obtain ⟨c, hf⟩ := hc p hp
    exact ⟨c, (forms_rew hf).1.1, (forms_rew hf).2.1⟩
  exact conv_nf hb hd.low (meets_of_joins hJ hne) h x y (nf_rew hx).1 (nf_rew hy).1 (nf_rew hx).2 (nf_rew hy).2
theorem complete_equal {eqs m : List Rule} {k : Nat} (hb : 0 < b) (hd : ∀ r ∈ eqs, Dig b o r.1 ∧ Dig b o r.2) (h : complete eqs k = some (m, true)) {s t x y : Str} (hs : Conv eqs s t) (hx : nf m s = some x) (hy : nf m t = some y) : x = y := by
  obtain ⟨g1, g2, g3⟩ := complete_rel hd h
  exact closed_nf hb g2 (g3 rfl) (g1.conv hs) hx hy
/-- more rounds do not change a confluent system -/
theorem rounds_more : ∀ (k : Nat) (l m : List Rule), rounds k l = some (m, true) → rounds (k + 1) l = some (m, true)
  | 0, l, m, h => by
    unfold rounds at h
    cases hc : clash l with
    | none => rw [hc] at h; cases h
    | some c =>
      rw [hc] at h
      simp only [Option.some.injEq, Prod.mk.injEq] at h
      obtain ⟨rfl, h1⟩ := h
      cases c with
      | some i => cases h1
      | none =>
        unfold rounds
        rw [fresh_of_closed _ (clashFrom_none _ 0 hc)]
  | k + 1, l, m, h => by
    unfold rounds at h ⊢
    cases hf : fresh l (pairs l) with
    | none => rw [hf] at h; cases h
    | some more =>
      rw [hf] at h
      cases more with
      | nil => exact h
      | cons r more =>
        simp only at h ⊢
        cases hs : settle (l ++ r :: more) with
        | none => rw [hs] at h; cases h
        | some x =>
          rw [hs] at h
          simp only at h ⊢
          exact rounds_more k x m h
theorem complete_more {eqs m : List Rule} {k : Nat} (h : complete eqs k = some (m, true)) : complete eqs (k + 1) = some (m, true) := by
  unfold complete at h ⊢
  cases hs : settle (oriented eqs) with
  | none => rw [hs] at h; cases h
  | some l =>
    rw [hs] at h
    exact rounds_more k l m h
end
end Go.Proofs.Ytffghamcggadcaa
