/- Rewriting, in plain Lean: a value that every step lowers, normal forms, and why one that meets all its pairs tells equal strings from others. Conditions: every rule goes from the greater string to the lesser one. -/
import Derived.Test.YtffghamcggadcaaPt
namespace Go.Proofs.Ytffghamcggadcaa
open Lib (compareBytes)
set_option linter.unusedVariables false
set_option linter.unusedSimpArgs false
/-! ### A number for each string, in the order of lengths and letters -/
def ones (b : Nat) : Nat → Nat
  | 0 => 0
  | n + 1 => ones b n * b + 1
theorem ones_pow (b : Nat) : ∀ n, ones b n * b + 1 = ones b n + b ^ n
  | 0 => by simp [ones]
  | n + 1 => by
    have ih := ones_pow b n
    show (ones b n * b + 1) * b + 1 = ones b n * b + 1 + b ^ (n + 1)
    rw [ih, Nat.add_mul, Nat.pow_succ]
    omega
theorem ones_mono (b : Nat) : ∀ {m n : Nat}, m ≤ n → ones b m ≤ ones b n := by
  intro m n h
  induction h with
  | refl => exact Nat.le_refl _
  | step h ih =>
    rename_i k
    have h1 := ones_pow b k
    show ones b m ≤ ones b k * b + 1
    omega
def val (b o : Nat) (s : Str) : Nat := s.foldl (fun a c => a * b + (c.toNat - o)) 0
theorem val_foldl (b o : Nat) : ∀ (s : Str) (a : Nat), s.foldl (fun a c => a * b + (c.toNat - o)) a = a * b ^ s.length + val b o s
  | [], a => by simp [val]
  | c :: s, a => by
    unfold val
    simp only [List.foldl_cons, List.length_cons]
    rw [val_foldl b o s (a * b + (c.toNat - o)), val_foldl b o s (0 * b + (c.toNat - o)), Nat.pow_succ]
    simp only [Nat.zero_mul, Nat.zero_add, Nat.add_mul, Nat.mul_assoc, Nat.mul_comm b]
    omega
theorem val_append (b o : Nat) (s t : Str) : val b o (s ++ t) = val b o s * b ^ t.length + val b o t := by
  unfold val
  rw [List.foldl_append]
  exact val_foldl b o t _
theorem val_cons (b o : Nat) (c : UInt8) (s : Str) : val b o (c :: s) = (c.toNat - o) * b ^ s.length + val b o s := by
  have := val_append b o [c] s
  simpa [val] using this
/-- letters whose digits lie between 1 and b -/
def Dig (b o : Nat) (s : Str) : Prop := ∀ c ∈ s, o < c.toNat ∧ c.toNat ≤ o + b
section
variable {b o : Nat}
theorem Dig.append {s t : Str} : Dig b o (s ++ t) ↔ Dig b o s ∧ Dig b o t := by
  unfold Dig
  simp only [List.mem_append]
  exact ⟨fun h => ⟨fun c hc => h c (.inl hc), fun c hc => h c (.inr hc)⟩, fun h c hc => hc.elim (h.1 c) (h.2 c)⟩
theorem Dig.cons {c : UInt8} {s : Str} : Dig b o (c :: s) ↔ (o < c.toNat ∧ c.toNat ≤ o + b) ∧ Dig b o s := by
  unfold Dig
  simp
theorem val_low : ∀ {s : Str}, Dig b o s → ones b s.length ≤ val b o s
  | [], _ => by simp [ones]
  | c :: s, h => by
    have h1 := Dig.cons.1 h
    have ih := val_low h1.2
    rw [val_cons]
    have h2 := ones_pow b s.length
    have h3 : 1 * b ^ s.length ≤ (c.toNat - o) * b ^ s.length := Nat.mul_le_mul_right _ (by omega)
    show ones b s.length * b + 1 ≤ _
    omega
theorem val_high : ∀ {s : Str}, Dig b o s → val b o s + 1 ≤ ones b (s.length + 1)
  | [], _ => by simp [ones, val]
  | c :: s, h => by
    have h1 := Dig.cons.1 h
    have ih := val_high h1.2
    rw [val_cons]
    have h3 : (c.toNat - o) * b ^ s.length ≤ b * b ^ s.length := Nat.mul_le_mul_right _ (by omega)
    have h4 := ones_pow b (s.length + 1)
    have h5 : b ^ (s.length + 1) = b * b ^ s.length := by rw [Nat.pow_succ, Nat.mul_comm]
    show _ ≤ ones b (s.length + 1) * b + 1
    omega
theorem val_lex : ∀ {s t : Str}, s.length = t.length → Dig b o s → Dig b o t → compareBytes s t < 0 → val b o s < val b o t
  | [], [], _, _, _, h => by simp [compareBytes] at h
  | [], _ :: _, h, _, _, _ => by simp at h
  | _ :: _, [], h, _, _, _ => by simp at h
  | c :: s, d :: t, hl, hs, ht, h => by
    have h1 := Dig.cons.1 hs
    have h2 := Dig.cons.1 ht
    have hl' : s.length = t.length := by simpa using hl
    unfold compareBytes at h
    rw [val_cons, val_cons]
    by_cases hcd : c < d
    · have h3 := val_high h1.2
      have h4 := val_low h2.2
      have h5 := ones_pow b t.length
      have hn : c.toNat < d.toNat := UInt8.lt_iff_toNat_lt.1 hcd
      have h6 : (c.toNat - o + 1) * b ^ t.length ≤ (d.toNat - o) * b ^ t.length := Nat.mul_le_mul_right _ (by omega)
      rw [Nat.add_mul, Nat.one_mul] at h6
      rw [hl'] at h3 ⊢
      have h7 : ones b (t.length + 1) = ones b t.length * b + 1 := rfl
      omega
    · rw [if_neg hcd] at h
      by_cases hdc : d < c
      · rw [if_pos hdc] at h; omega
      · rw [if_neg hdc] at h
        have e : c = d := UInt8.le_antisymm (UInt8.not_lt.1 hdc) (UInt8.not_lt.1 hcd)
        subst e
        have := val_lex hl' h1.2 h2.2 h
        rw [hl']
        omega
theorem val_lt {s t : Str} (hs : Dig b o s) (ht : Dig b o t) (h : orderS s t < 0) : val b o s < val b o t := by
  rcases os_lt.1 h with h1 | ⟨h1, h2⟩
  · have h3 := val_high hs
    have h4 := val_low ht
    have h5 := ones_mono b (show s.length + 1 ≤ t.length from h1)
    omega
  · exact val_lex h1 hs ht h2
/-- a rule that every context lowers -/
def Low (b o : Nat) (r : Rule) : Prop := val b o r.2 < val b o r.1 ∧ r.2.length ≤ r.1.length
theorem low_of {r : Rule} (h1 : Dig b o r.1) (h2 : Dig b o r.2) (h : gt r.1 r.2 = true) : Low b o r := by
  have h' := gt_iff.1 h
  refine ⟨val_lt h2 h1 h', ?_⟩
  rcases os_lt.1 h' with h3 | h3 <;> omega
theorem Low.ctx {r : Rule} (hb : 0 < b) (h : Low b o r) (u v : Str) : val b o (u ++ r.2 ++ v) < val b o (u ++ r.1 ++ v) := by
  rw [val_append, val_append, val_append, val_append]
  have h1 : b ^ r.2.length ≤ b ^ r.1.length := Nat.pow_le_pow_right hb h.2
  have h2 := Nat.mul_le_mul_left (val b o u) h1
  have h3 : val b o u * b ^ r.2.length + val b o r.2 < val b o u * b ^ r.1.length + val b o r.1 := by have := h.1; omega
  have h4 := Nat.mul_lt_mul_of_pos_right h3 (Nat.pow_pos hb (n := v.length))
  omega
end
/-! ### Steps -/
def Step (l : List Rule) (s t : Str) : Prop := ∃ r ∈ l, ∃ u v, s = u ++ r.1 ++ v ∧ t = u ++ r.2 ++ v
inductive Rew (l : List Rule) : Str → Str → Prop
  | refl (s : Str) : Rew l s s
  | step {s t u : Str} : Step l s t → Rew l t u → Rew l s u
inductive Conv (l : List Rule) : Str → Str → Prop
  | refl (s : Str) : Conv l s s
  | fwd {s t u : Str} : Step l s t → Conv l t u → Conv l s u
  | bwd {s t u : Str} : Step l t s → Conv l t u → Conv l s u
section
variable {l m : List Rule} {s t u : Str}
theorem Step.ctx (h : Step l s t) (x y : Str) : Step l (x ++ s ++ y) (x ++ t ++ y) := by
  obtain ⟨r, hr, a, c, rfl, rfl⟩ := h
  exact ⟨r, hr, x ++ a, c ++ y, by simp, by simp⟩
theorem Step.mono (h : Step l s t) (hl : ∀ r ∈ l, r ∈ m) : Step m s t := by
  obtain ⟨r, hr, rest⟩ := h
  exact ⟨r, hl r hr, rest⟩
theorem Step.rule {r : Rule} (h : r ∈ l) : Step l r.1 r.2 := ⟨r, h, [], [], by simp, by simp⟩
theorem Rew.trans (h : Rew l s t) (k : Rew l t u) : Rew l s u := by
  induction h with
  | refl => exact k
  | step h _ ih => exact .step h (ih k)
theorem Rew.one (h : Step l s t) : Rew l s t := .step h (.refl _)
theorem Rew.ctx (h : Rew l s t) (x y : Str) : Rew l (x ++ s ++ y) (x ++ t ++ y) := by
  induction h with
  | refl => exact .refl _
  | step h _ ih => exact .step (h.ctx x y) ih
theorem Conv.trans (h : Conv l s t) (k : Conv l t u) : Conv l s u := by
  induction h with
  | refl => exact k
  | fwd h _ ih => exact .fwd h (ih k)
  | bwd h _ ih => exact .bwd h (ih k)
theorem Conv.symm (h : Conv l s t) : Conv l t s := by
  induction h with
  | refl => exact .refl _
  | fwd h _ ih => exact ih.trans (.bwd h (.refl _))
  | bwd h _ ih => exact ih.trans (.fwd h (.refl _))
theorem Rew.conv (h : Rew l s t) : Conv l s t := by
  induction h with
  | refl => exact .refl _
  | step h _ ih => exact .fwd h ih
theorem Conv.ctx (h : Conv l s t) (x y : Str) : Conv l (x ++ s ++ y) (x ++ t ++ y) := by
  induction h with
  | refl => exact .refl _
  | fwd h _ ih => exact .fwd (h.ctx x y) ih
  | bwd h _ ih => exact .bwd (h.ctx x y) ih
/-- m relates the sides of every rule of l -/
def Rel (l m : List Rule) : Prop := ∀ r ∈ l, Conv m r.1 r.2
theorem Rel.refl (l : List Rule) : Rel l l := fun r hr => .fwd (Step.rule hr) (.refl _)
theorem Rel.conv (hR : Rel l m) (h : Conv l s t) : Conv m s t := by
  induction h with
  | refl => exact .refl _
  | fwd h _ ih =>
    obtain ⟨r, hr, x, y, rfl, rfl⟩ := h
    exact ((hR r hr).ctx x y).trans ih
  | bwd h _ ih =>
    obtain ⟨r, hr, x, y, rfl, rfl⟩ := h
    exact ((hR r hr).symm.ctx x y).trans ih
theorem Rel.trans {k : List Rule} (h : Rel l m) (h' : Rel m k) : Rel l k := fun r hr => h'.conv (h r hr)
/-! ### Normal forms -/
theorem first_split {i : Nat} {r : Rule} (h : first l s = some (i, r)) : r ∈ l ∧ s = s.take i ++ r.1 ++ s.drop (i + r.1.length) := by
  obtain ⟨h1, h2, h3⟩ := first_spec h
  refine ⟨h1, ?_⟩
  obtain ⟨y, hy⟩ := List.isPrefixOf_iff_prefix.1 h3
  have : s.drop (i + r.1.length) = y := by rw [← List.drop_drop, ← hy, List.drop_left]
  rw [this, List.append_assoc, hy, List.take_append_drop]
theorem first_step {i : Nat} {r : Rule} (h : first l s = some (i, r)) : Step l s (replaced s i r) := by
  obtain ⟨h1, h2⟩ := first_split h
  exact ⟨r, h1, s.take i, s.drop (i + r.1.length), h2, rfl⟩
theorem normalN_rew : ∀ (k : Nat) (s t : Str) (n n' : Nat), normalN l k s n = some (t, n') → Rew l s t ∧ first l t = none := by
  intro k
  induction k with
  | zero =>
    intro s t n n' h
    cases hf : first l s with
    | none => rw [normalN_none hf] at h; cases h; exact ⟨.refl _, hf⟩
    | some p => rw [normalN_stop (i := p.1) (r := p.2) hf] at h; cases h
  | succ k ih =>
    intro s t n n' h
    cases hf : first l s with
    | none => rw [normalN_none hf] at h; cases h; exact ⟨.refl _, hf⟩
    | some p =>
      rw [normalN_go (i := p.1) (r := p.2) hf] at h
      obtain ⟨h1, h2⟩ := ih _ _ _ _ h
      exact ⟨.step (first_step hf) h1, h2⟩
theorem nf_rew (h : nf l s = some t) : Rew l s t ∧ first l t = none := by
  unfold nf normal at h
  cases hn : normalN l 20000 s 0 with
  | none => rw [hn] at h; cases h
  | some p =>
    rw [hn] at h
    simp only [Option.map_some, Option.some.injEq] at h
    obtain ⟨h1, h2⟩ := normalN_rew 20000 s p.1 0 p.2 hn
    rw [← h]
    exact ⟨h1, h2⟩
theorem forms_rew {p : Str × Str} {a b : Str} (h : forms l p = some (a, b)) : (Rew l p.1 a ∧ first l a = none) ∧ (Rew l p.2 b ∧ first l b = none) := by
  unfold forms at h
  cases h1 : nf l p.1 with
  | none => rw [h1] at h; simp at h
  | some x =>
    cases h2 : nf l p.2 with
    | none => rw [h1, h2] at h; simp at h
    | some y =>
      rw [h1, h2] at h
      simp only [Option.some.injEq, Prod.mk.injEq] at h
      obtain ⟨rfl, rfl⟩ := h
      exact ⟨nf_rew h1, nf_rew h2⟩
theorem firstK_none_iff (hne : ∀ r ∈ l, r.1 ≠ []) : ∀ (s : Str), first l s = none ↔ ∀ r ∈ l, ∀ u v, s ≠ u ++ r.1 ++ v
  | [] => by
    constructor
    · intro _ r hr u v e
      have : (u ++ r.1 ++ v).length = 0 := by rw [← e]; rfl
      simp at this
      exact hne r hr this.2.1
    · intro _; rfl
  | c :: s => by
    have ih := firstK_none_iff hne s
    constructor
    · intro h r hr u v e
      unfold first at h
      cases hf : l.find? fun r => pre r.1 (c :: s) with
      | some x => rw [hf] at h; simp at h
      | none =>
        rw [hf] at h
        simp only [Option.map_eq_none_iff] at h
        cases u with
        | nil =>
          have h1 := List.find?_eq_none.1 hf r hr
          apply h1
          rw [e]
          exact List.isPrefixOf_iff_prefix.2 ⟨v, by simp⟩
        | cons d u =>
          simp only [List.cons_append, List.cons.injEq] at e
          exact ih.1 h r hr u v e.2
    · intro h
      unfold first
      have hf : (l.find? fun r => pre r.1 (c :: s)) = none := by
        rw [List.find?_eq_none]
        intro r hr hp
        obtain ⟨y, hy⟩ := List.isPrefixOf_iff_prefix.1 hp
        exact h r hr [] y (by simp [hy])
      rw [hf]
      simp only [Option.map_eq_none_iff]
      exact ih.2 fun r hr u v e => h r hr (c :: u) v (by rw [e]; simp)
theorem no_step (hne : ∀ r ∈ l, r.1 ≠ []) (h : first l s = none) : ¬ Step l s t := by
  rintro ⟨r, hr, u, v, e, _⟩
  exact (firstK_none_iff hne s).1 h r hr u v e
theorem Low.ne {b o : Nat} {r : Rule} (h : Low b o r) : r.1 ≠ [] := fun e => by
  have := h.1
  rw [e] at this
  simp [val] at this
theorem step_low {b o : Nat} (hb : 0 < b) (hl : ∀ r ∈ l, Low b o r) (h : Step l s t) : val b o t < val b o s := by
  obtain ⟨r, hr, u, v, rfl, rfl⟩ := h
  exact (hl r hr).ctx hb u v
theorem nf_exists {b o : Nat} (hb : 0 < b) (hl : ∀ r ∈ l, Low b o r) : ∀ (n : Nat) (s : Str), val b o s ≤ n → ∃ t, Rew l s t ∧ first l t = none
  | n, s, hn => by
    cases hf : first l s with
    | none => exact ⟨s, .refl _, hf⟩
    | some p =>
      have h1 := step_low hb hl (first_step (i := p.1) (r := p.2) hf)
      cases n with
      | zero => omega
      | succ n =>
        obtain ⟨t, h2, h3⟩ := nf_exists hb hl n (replaced s p.1 p.2) (by omega)
        exact ⟨t, .step (first_step hf) h2, h3⟩
theorem normalN_bound {b o : Nat} (hb : 0 < b) (hl : ∀ r ∈ l, Low b o r) : ∀ (k : Nat) (s : Str) (n : Nat), val b o s ≤ k → normalN l k s n ≠ none
  | k, s, n, hk => by
    cases hf : first l s with
    | none => rw [normalN_none hf]; simp
    | some p =>
      have h1 := step_low hb hl (first_step (i := p.1) (r := p.2) hf)
      cases k with
      | zero => omega
      | succ k =>
        rw [normalN_go (i := p.1) (r := p.2) hf]
        exact normalN_bound hb hl k _ (n + 1) (by omega)
/-! ### Where all pairs meet -/
def Meets (l : List Rule) : Prop := ∀ s a b, Step l s a → Step l s b → ∃ c, Rew l a c ∧ Rew l b c
theorem unique_nf {b o : Nat} (hb : 0 < b) (hl : ∀ r ∈ l, Low b o r) (hM : Meets l) : ∀ (n : Nat) (s x y : Str), val b o s ≤ n → Rew l s x → Rew l s y → first l x = none → first l y = none → x = y
  | n, s, x, y, hn, hx, hy, fx, fy => by
    have hne : ∀ r ∈ l, r.1 ≠ [] := fun r hr => (hl r hr).ne
    cases hx with
    | refl =>
      cases hy with
      | refl => rfl
      | step h _ => exact absurd h (no_step hne fx)
    | step h1 h1' =>
      cases hy with
      | refl => exact absurd h1 (no_step hne fy)
      | step h2 h2' =>
        rename_i a c
        obtain ⟨d, ha, hc⟩ := hM s a c h1 h2
        have l1 := step_low hb hl h1
        have l2 := step_low hb hl h2
        obtain ⟨e, he, fe⟩ := nf_exists hb hl (val b o d) d (Nat.le_refl _)
        cases n with
        | zero => omega
        | succ n =>
          rw [unique_nf hb hl hM n a x e (by omega) h1' (ha.trans he) fx fe, unique_nf hb hl hM n c y e (by omega) h2' (hc.trans he) fy fe]
theorem conv_nf {b o : Nat} (hb : 0 < b) (hl : ∀ r ∈ l, Low b o r) (hM : Meets l) (h : Conv l s t) : ∀ x y, Rew l s x → Rew l t y → first l x = none → first l y = none → x = y := by
  induction h with
  | refl s => exact fun x y hx hy fx fy => unique_nf hb hl hM _ s x y (Nat.le_refl _) hx hy fx fy
  | fwd h _ ih =>
    rename_i s t u _
    intro x y hx hy fx fy
    obtain ⟨z, hz, fz⟩ := nf_exists hb hl (val b o t) t (Nat.le_refl _)
    rw [← ih z y hz hy fz fy]
    exact unique_nf hb hl hM _ s x z (Nat.le_refl _) hx (.step h hz) fx fz
  | bwd h _ ih =>
    rename_i s t u _
    intro x y hx hy fx fy
    rw [← ih x y (.step h hx) hy fx fy]
end
end Go.Proofs.Ytffghamcggadcaa
