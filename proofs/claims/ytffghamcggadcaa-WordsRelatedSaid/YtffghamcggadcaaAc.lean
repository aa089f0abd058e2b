/- The automaton counts normal strings, in plain Lean. Conditions: left sides are not empty; the states hold all proper beginnings of left sides. -/
import Derived.Test.YtffghamcggadcaaAq
namespace Go.Proofs.Ytffghamcggadcaa
set_option linter.unusedVariables false
set_option linter.unusedSimpArgs false
/-- all strings of n letters, each letter among the first k, that no step is possible in -/
def level (l : List Rule) (k : Nat) : Nat → List Str
  | 0 => [[]]
  | n + 1 => (level l k n).flatMap fun s => ((List.range k).map fun c => s ++ [letter c]).filter fun s => !endsL l s
def cnt (l : List Rule) (k n : Nat) : Nat := (level l k n).length
/-- P has the empty string and all proper beginnings of left sides, and what is in it without its last letter -/
structure Begins (l : List Rule) (P : List Str) : Prop where
  nil : [] ∈ P
  pre : ∀ v c, v ++ [c] ∈ P → v ∈ P
  left : ∀ r ∈ l, ∀ v c, r.1 = v ++ [c] → v ∈ P
  some : ∀ r ∈ l, r.1 ≠ []
theorem states_begins {l : List Rule} (h : ∀ r ∈ l, r.1 ≠ []) : Begins l (states l) := by
  have key : ∀ r ∈ l, ∀ v c u, r.1 = v ++ c :: u → v ∈ states l := fun r hr v c u e => by
    cases v with
    | nil => exact states_nil l
    | cons x v =>
      refine (states_mem l _).2 (.inr ⟨r, hr, begTo_mem.2 ⟨v.length, ?_, ?_⟩⟩)
      · rw [e]; simp
      · rw [e]; simp
  refine ⟨states_nil l, fun v c hv => ?_, fun r hr v c e => key r hr v c [] e, h⟩
  rcases (states_mem l _).1 hv with h0 | ⟨r, hr, hb⟩
  · simp at h0
  · obtain ⟨k, hk, e⟩ := begTo_mem.1 hb
    have h1 : r.1 = v ++ c :: r.1.drop (k + 1) := by
      conv => lhs; rw [← List.take_append_drop (k + 1) r.1, ← e]
      simp
    exact key r hr v c _ h1
theorem suf_iff (t s : Str) : suf t s = true ↔ t <:+ s := by unfold suf; exact List.isSuffixOf_iff_suffix
section
variable {l : List Rule} {P : List Str}
theorem snoc_suffix {v s : Str} {c d : UInt8} : v ++ [c] <:+ s ++ [d] ↔ c = d ∧ v <:+ s := by
  constructor
  · rintro ⟨t, h⟩
    rw [← List.append_assoc] at h
    obtain ⟨h1, h2⟩ := List.append_inj' h rfl
    simp at h2
    exact ⟨h2, ⟨t, h1⟩⟩
  · rintro ⟨rfl, t, rfl⟩
    exact ⟨t, by simp⟩
theorem ends_iff {s : Str} : endsL l s = true ↔ ∃ r ∈ l, r.1 <:+ s := by
  unfold endsL
  simp only [List.any_eq_true, suf_iff]
theorem ends_state (hB : Begins l P) (s : Str) (c : UInt8) : endsL l (s ++ [c]) = endsL l (longest P s ++ [c]) := by
  rw [Bool.eq_iff_iff, ends_iff, ends_iff]
  constructor
  · rintro ⟨r, hr, h⟩
    refine ⟨r, hr, ?_⟩
    obtain ⟨v, d, e⟩ : ∃ v d, r.1 = v ++ [d] := ⟨_, _, (List.dropLast_concat_getLast (hB.some r hr)).symm⟩
    rw [e] at h ⊢
    rw [snoc_suffix] at h ⊢
    exact ⟨h.1, longest_max (hB.left r hr v d e) h.2⟩
  · rintro ⟨r, hr, h⟩
    refine ⟨r, hr, h.trans ?_⟩
    obtain ⟨t, ht⟩ := longest_suffix P s
    exact ⟨t, by rw [← List.append_assoc, ht]⟩
theorem suffix_antisymm {s t : Str} (h1 : s <:+ t) (h2 : t <:+ s) : s = t := h1.eq_of_length (Nat.le_antisymm h1.length_le h2.length_le)
theorem longest_state (hB : Begins l P) (s : Str) (c : UInt8) : longest P (s ++ [c]) = longest P (longest P s ++ [c]) := by
  have hs : longest P s ++ [c] <:+ s ++ [c] := snoc_suffix.2 ⟨rfl, longest_suffix P s⟩
  apply suffix_antisymm
  · refine longest_max (longest_mem hB.nil _) ?_
    have h1 := longest_suffix P (s ++ [c])
    have h2 := longest_mem hB.nil (P := P) (s ++ [c])
    rcases List.eq_nil_or_concat (longest P (s ++ [c])) with e | ⟨v, d, e⟩
    · rw [e]; exact List.nil_suffix
    · rw [List.concat_eq_append] at e
      rw [e] at h1 h2 ⊢
      rw [snoc_suffix] at h1 ⊢
      exact ⟨h1.1, longest_max (hB.pre _ _ h2) h1.2⟩
  · exact longest_max (longest_mem hB.nil _) ((longest_suffix _ _).trans hs)
end
/-! ### Sums -/
def sumI : List Int → Int
  | [] => 0
  | n :: l => n + sumI l
theorem sumI_nonneg : ∀ {l : List Int}, (∀ n ∈ l, 0 ≤ n) → 0 ≤ sumI l
  | [], _ => Int.le_refl _
  | n :: l, h => by
    have h1 := h n List.mem_cons_self
    have h2 := sumI_nonneg (l := l) fun x hx => h x (List.mem_cons_of_mem _ hx)
    simp only [sumI]; omega
theorem sumI_le : ∀ {l : List Int}, (∀ n ∈ l, 0 ≤ n) → ∀ n ∈ l, n ≤ sumI l
  | [], _, n, hn => by cases hn
  | x :: l, h, n, hn => by
    have h1 := h x List.mem_cons_self
    have h3 := sumI_nonneg (l := l) fun x hx => h x (List.mem_cons_of_mem _ hx)
    simp only [sumI]
    rcases List.mem_cons.1 hn with rfl | h'
    · omega
    · have := sumI_le (l := l) (fun x hx => h x (List.mem_cons_of_mem _ hx)) n h'; omega
theorem total_law : ∀ (l : List Int) (s : Int), (∀ n ∈ l, 0 ≤ n) → s ≤ 4611686018427387904 → totalN l s = if s + sumI l ≤ 4611686018427387904 then some (s + sumI l) else none
  | [], s, _, hs => by simp [totalN, sumI, hs]
  | n :: l, s, h, hs => by
    have h1 := h n List.mem_cons_self
    have h3 := sumI_nonneg (l := l) fun x hx => h x (List.mem_cons_of_mem _ hx)
    have e : sumI (n :: l) = n + sumI l := rfl
    rw [e]
    unfold totalN
    by_cases hg : 4611686018427387904 - s < n
    · rw [if_pos hg, if_neg (by omega)]
    · rw [if_neg hg, total_law l (s + n) (fun x hx => h x (List.mem_cons_of_mem _ hx)) (by omega), Int.add_assoc]
/-- what a row sends to place t -/
theorem spreadRow_some {n : Int} (hn : 0 ≤ n) : ∀ {row out out' : List Int}, (∀ t ∈ row, t < out.length) → spreadRow n row out = some out' →
    out'.length = out.length ∧ ∀ t : Nat, t < out.length → out'.getD t 0 = out.getD t 0 + n * (row.count (t : Int) : Nat)
  | [], out, out', _, h => by
    simp only [spreadRow, Option.some.injEq] at h
    subst h
    exact ⟨rfl, fun t _ => by simp⟩
  | x :: row, out, out', hr, h => by
    have hr' : ∀ t ∈ row, t < out.length := fun t ht => hr t (List.mem_cons_of_mem _ ht)
    unfold spreadRow at h
    by_cases hx : x < 0
    · rw [if_pos hx] at h
      obtain ⟨h1, h2⟩ := spreadRow_some hn hr' h
      refine ⟨h1, fun t ht => ?_⟩
      rw [h2 t ht, List.count_cons_of_ne (by omega)]
    · rw [if_neg hx] at h
      split at h
      · cases h
      · obtain ⟨h1, h2⟩ := spreadRow_some hn (out := out.set x.toNat (out.getD x.toNat 0 + n)) (by simpa using hr') h
        rw [List.length_set] at h1 h2
        refine ⟨h1, fun t ht => ?_⟩
        rw [h2 t ht]
        have hxl := hr x List.mem_cons_self
        by_cases e : x = t
        · subst e
          simp only [Int.toNat_natCast]
          rw [List.count_cons_self, List.getD_eq_getElem?_getD, List.getElem?_set_self (by omega), Option.getD_some]
          have : n * ((row.count (t : Int) + 1 : Nat) : Int) = n * ((row.count (t : Int) : Nat) : Int) + n := by
            rw [Int.natCast_add, Int.mul_add]; simp
          omega
        · rw [List.count_cons_of_ne (by simpa using e), List.getD_eq_getElem?_getD, List.getElem?_set_ne (by omega), ← List.getD_eq_getElem?_getD]
theorem mul_nn {n : Int} (hn : 0 ≤ n) (k : Nat) : 0 ≤ n * (k : Int) := Int.mul_nonneg hn (Int.natCast_nonneg _)
theorem spreadRow_none {n : Int} (hn : 0 ≤ n) : ∀ {row out : List Int}, (∀ t ∈ row, t < out.length) → spreadRow n row out = none →
    ∃ t : Nat, t < out.length ∧ 4611686018427387904 < out.getD t 0 + n * (row.count (t : Int) : Nat)
  | [], out, _, h => by simp [spreadRow] at h
  | x :: row, out, hr, h => by
    have hr' : ∀ t ∈ row, t < out.length := fun t ht => hr t (List.mem_cons_of_mem _ ht)
    unfold spreadRow at h
    by_cases hx : x < 0
    · rw [if_pos hx] at h
      obtain ⟨t, h1, h2⟩ := spreadRow_none hn hr' h
      refine ⟨t, h1, ?_⟩
      rw [List.count_cons_of_ne (by omega)]
      exact h2
    · rw [if_neg hx] at h
      have hxl := hr x List.mem_cons_self
      have hmul : ∀ k : Nat, n * ((k + 1 : Nat) : Int) = n * (k : Int) + n := fun k => by rw [Int.natCast_add, Int.mul_add]; simp
      split at h
      · rename_i hg
        refine ⟨x.toNat, by omega, ?_⟩
        have e : ((x.toNat : Nat) : Int) = x := by omega
        rw [e, List.count_cons_self, hmul]
        have := mul_nn hn (row.count x)
        omega
      · obtain ⟨t, h1, h2⟩ := spreadRow_none hn (out := out.set x.toNat (out.getD x.toNat 0 + n)) (by simpa using hr') h
        rw [List.length_set] at h1
        refine ⟨t, h1, ?_⟩
        by_cases e : x = t
        · subst e
          simp only [Int.toNat_natCast] at h2
          rw [List.getD_eq_getElem?_getD, List.getElem?_set_self (by omega), Option.getD_some] at h2
          rw [List.count_cons_self, hmul]
          omega
        · rw [List.getD_eq_getElem?_getD, List.getElem?_set_ne (by omega), ← List.getD_eq_getElem?_getD] at h2
          rw [List.count_cons_of_ne (by simpa using e)]
          exact h2
/-- what all rows send to place t -/
def contrib (t : Int) : List (List Int) → List Int → Int
  | row :: tab, n :: now => n * (row.count t : Nat) + contrib t tab now
  | _, _ => 0
theorem contrib_nonneg (t : Int) : ∀ (tab : List (List Int)) (now : List Int), (∀ n ∈ now, 0 ≤ n) → 0 ≤ contrib t tab now
  | [], _, _ => by simp [contrib]
  | _ :: _, [], _ => by simp [contrib]
  | row :: tab, n :: now, h => by
    have h1 := mul_nn (h n List.mem_cons_self) (row.count t)
    have h2 := contrib_nonneg t tab now fun x hx => h x (List.mem_cons_of_mem _ hx)
    simp only [contrib]; omega
theorem spreadN_some : ∀ {tab : List (List Int)} {now out out' : List Int}, (∀ n ∈ now, 0 ≤ n) → (∀ row ∈ tab, ∀ t ∈ row, t < out.length) → spreadN tab now out = some out' →
    out'.length = out.length ∧ ∀ t : Nat, t < out.length → out'.getD t 0 = out.getD t 0 + contrib t tab now
  | [], now, out, out', _, _, h => by simp [spreadN] at h; subst h; exact ⟨rfl, fun t _ => by simp [contrib]⟩
  | row :: tab, [], out, out', _, _, h => by simp [spreadN] at h; subst h; exact ⟨rfl, fun t _ => by simp [contrib]⟩
  | row :: tab, n :: now, out, out', hn, hr, h => by
    unfold spreadN at h
    cases h1 : spreadRow n row out with
    | none => rw [h1] at h; cases h
    | some o1 =>
      rw [h1] at h
      obtain ⟨a1, a2⟩ := spreadRow_some (hn n List.mem_cons_self) (hr row List.mem_cons_self) h1
      obtain ⟨b1, b2⟩ := spreadN_some (fun x hx => hn x (List.mem_cons_of_mem _ hx)) (by rw [a1]; exact fun r hr' => hr r (List.mem_cons_of_mem _ hr')) h
      rw [a1] at b1 b2
      refine ⟨b1, fun t ht => ?_⟩
      rw [b2 t ht, a2 t ht]
      simp only [contrib]; omega
theorem spreadN_none : ∀ {tab : List (List Int)} {now out : List Int}, (∀ n ∈ now, 0 ≤ n) → (∀ row ∈ tab, ∀ t ∈ row, t < out.length) → spreadN tab now out = none →
    ∃ t : Nat, t < out.length ∧ 4611686018427387904 < out.getD t 0 + contrib t tab now
  | [], now, out, _, _, h => by simp [spreadN] at h
  | row :: tab, [], out, _, _, h => by simp [spreadN] at h
  | row :: tab, n :: now, out, hn, hr, h => by
    have hn' : ∀ x ∈ now, 0 ≤ x := fun x hx => hn x (List.mem_cons_of_mem _ hx)
    unfold spreadN at h
    cases h1 : spreadRow n row out with
    | none =>
      obtain ⟨t, ht, h2⟩ := spreadRow_none (hn n List.mem_cons_self) (hr row List.mem_cons_self) h1
      refine ⟨t, ht, ?_⟩
      have := contrib_nonneg t tab now hn'
      simp only [contrib]; omega
    | some o1 =>
      rw [h1] at h
      obtain ⟨a1, a2⟩ := spreadRow_some (hn n List.mem_cons_self) (hr row List.mem_cons_self) h1
      obtain ⟨t, ht, h2⟩ := spreadN_none hn' (by rw [a1]; exact fun r hr' => hr r (List.mem_cons_of_mem _ hr')) h
      rw [a1] at ht
      refine ⟨t, ht, ?_⟩
      rw [a2 t ht] at h2
      simp only [contrib]; omega
/-! ### The counts are those of the strings -/
/-- a row of the automaton over the states M -/
def rowM (l : List Rule) (P M : List Str) (k : Nat) (m : Str) : List Int :=
  (List.range k).map fun c => if endsL l (m ++ [letter c]) = true then -1 else (M.idxOf (longest P (m ++ [letter c])) : Nat)
structure Closed (l : List Rule) (P M : List Str) (k : Nat) : Prop where
  zero : ∃ t, M = [] :: t
  nodup : M.Nodup
  sub : ∀ m ∈ M, m ∈ P
  next : ∀ m ∈ M, ∀ c, c < k → endsL l (m ++ [letter c]) = false → longest P (m ++ [letter c]) ∈ M
def vec (l : List Rule) (P M : List Str) (k n : Nat) : List Int := M.map fun m => (((level l k n).countP fun s => longest P s == m : Nat) : Int)
section
variable {l : List Rule} {P M : List Str} {k : Nat}
theorem vec_len (n : Nat) : (vec l P M k n).length = M.length := by simp [vec]
theorem vec_nonneg (n : Nat) : ∀ x ∈ vec l P M k n, 0 ≤ x := by
  intro x hx
  obtain ⟨m, _, rfl⟩ := List.mem_map.1 hx
  exact Int.natCast_nonneg _
theorem vec_zero (hC : Closed l P M k) : vec l P M k 0 = startN M.length := by
  obtain ⟨t, rfl⟩ := hC.zero
  have hn := (List.nodup_cons.1 hC.nodup).1
  have h0 : ∀ m, ((level l k 0).countP fun s => longest P s == m) = if m = [] then 1 else 0 := fun m => by
    simp only [level, List.countP_cons, List.countP_nil, longest_nil]
    by_cases e : m = []
    · subst e; simp
    · have : ([] == m) = false := by rw [beq_eq_false_iff_ne]; exact fun h => e h.symm
      simp [this, e]
  unfold vec startN
  simp only [List.map_cons, List.length_cons, List.replicate_succ, List.set_cons_zero, h0, if_true]
  congr 1
  clear hC
  induction t with
  | nil => rfl
  | cons x t ih =>
    have hx : x ≠ [] := fun e => hn (by rw [e]; exact List.mem_cons_self)
    rw [List.map_cons, ih fun h => hn (List.mem_cons_of_mem _ h), List.length_cons, List.replicate_succ, if_neg hx]
    rfl
theorem level_mem (hC : Closed l P M k) (hB : Begins l P) : ∀ n s, s ∈ level l k n → longest P s ∈ M
  | 0, s, h => by
    simp only [level, List.mem_singleton] at h
    subst h
    obtain ⟨t, ht⟩ := hC.zero
    rw [longest_nil, ht]; exact List.mem_cons_self
  | n + 1, s, h => by
    simp only [level, List.mem_flatMap, List.mem_filter, List.mem_map, List.mem_range] at h
    obtain ⟨u, hu, ⟨c, hc, rfl⟩, he⟩ := h
    rw [longest_state hB]
    refine hC.next _ (level_mem hC hB n u hu) c hc ?_
    rw [← ends_state hB]
    simpa using he
/-- a sum over strings is a sum over their states -/
theorem sum_states (g : Str → Nat) : ∀ (L : List Str), (∀ s ∈ L, longest P s ∈ M) → M.Nodup →
    ((L.map fun s => g (longest P s)).sum : Nat) = (M.map fun m => (L.countP fun s => longest P s == m) * g m).sum
  | [], _, _ => by
    have key : ∀ M : List Str, (M.map fun m => (List.countP (fun s => longest P s == m) []) * g m).sum = 0 := by
      intro M
      induction M with
      | nil => rfl
      | cons x M ih => rw [List.map_cons, List.sum_cons, ih]; simp
    rw [key]; rfl
  | s :: L, h, hn => by
    rw [List.map_cons, List.sum_cons, sum_states g L (fun x hx => h x (List.mem_cons_of_mem _ hx)) hn]
    have key : ∀ (M : List Str), M.Nodup → (M.map fun m => (List.countP (fun s => longest P s == m) (s :: L)) * g m).sum = (if longest P s ∈ M then g (longest P s) else 0) + (M.map fun m => (List.countP (fun s => longest P s == m) L) * g m).sum := by
      intro M hM
      induction M with
      | nil => simp
      | cons x M ih =>
        have h1 := ih (List.nodup_cons.1 hM).2
        have hx := (List.nodup_cons.1 hM).1
        rw [List.map_cons, List.sum_cons, List.map_cons, List.sum_cons, h1]
        by_cases e : longest P s = x
        · rw [e, if_neg hx, if_pos List.mem_cons_self, List.countP_cons_of_pos (by simp [e]), Nat.add_mul, Nat.one_mul]
          omega
        · rw [List.countP_cons_of_neg (by simpa using e)]
          simp only [List.mem_cons, e, false_or]
          omega
    rw [key M hn, if_pos (h s List.mem_cons_self)]
theorem count_idx (hM : M.Nodup) (t : Nat) (ht : t < M.length) (m : Str) : ∀ K : List Nat, (∀ c, c ∈ K → endsL l (m ++ [letter c]) = false → longest P (m ++ [letter c]) ∈ M) →
    ((K.map fun c => if endsL l (m ++ [letter c]) = true then (-1 : Int) else (M.idxOf (longest P (m ++ [letter c])) : Nat)).count (t : Int)) =
      ((K.map fun c => m ++ [letter c]).filter fun s => !endsL l s).countP fun s => longest P s == M[t]
  | [], _ => by simp
  | c :: K, h => by
    have ih := count_idx hM t ht m K fun x hx => h x (List.mem_cons_of_mem _ hx)
    simp only [List.map_cons]
    by_cases he : endsL l (m ++ [letter c]) = true
    · rw [if_pos he, List.count_cons_of_ne (by omega), List.filter_cons_of_neg (by simp [he])]
      exact ih
    · have he' : endsL l (m ++ [letter c]) = false := by simpa using he
      have hm := h c List.mem_cons_self he'
      rw [if_neg he, List.filter_cons_of_pos (by simp [he']), List.countP_cons]
      by_cases e : longest P (m ++ [letter c]) = M[t]
      · have : M.idxOf (longest P (m ++ [letter c])) = t := by rw [e]; exact hM.idxOf_getElem t ht
        rw [this, List.count_cons_self, ih]
        simp [e]
      · have hne : ((M.idxOf (longest P (m ++ [letter c])) : Nat) : Int) ≠ (t : Int) := fun h => by
          have h1 : M.idxOf (longest P (m ++ [letter c])) = t := by omega
          apply e
          have h2 := List.getElem_idxOf (List.idxOf_lt_length_iff.2 hm)
          rw [← h2]
          congr 1
        rw [List.count_cons_of_ne hne, ih]
        simp [e]
theorem contrib_map (t : Int) (f : Str → List Int) (g : Str → Nat) : ∀ M : List Str, contrib t (M.map f) (M.map fun m => ((g m : Nat) : Int)) = (((M.map fun m => g m * (f m).count t).sum : Nat) : Int)
  | [] => rfl
  | m :: M => by
    simp only [List.map_cons, contrib, contrib_map t f g M, List.sum_cons, Int.natCast_add, Int.natCast_mul]
theorem countP_flat {α β : Type} (p : β → Bool) (f : α → List β) : ∀ L : List α, (L.flatMap f).countP p = (L.map fun x => (f x).countP p).sum
  | [] => rfl
  | x :: L => by rw [List.flatMap_cons, List.countP_append, countP_flat p f L]; rfl
theorem vec_step (hC : Closed l P M k) (hB : Begins l P) (n t : Nat) (ht : t < M.length) :
    contrib t (M.map (rowM l P M k)) (vec l P M k n) = (vec l P M k (n + 1)).getD t 0 := by
  have h1 : ∀ s : Str, ((((List.range k).map fun c => s ++ [letter c]).filter fun s => !endsL l s).countP fun s => longest P s == M[t]) =
      ((((List.range k).map fun c => longest P s ++ [letter c]).filter fun s => !endsL l s).countP fun s => longest P s == M[t]) := by
    intro s
    generalize List.range k = K
    induction K with
    | nil => rfl
    | cons c K ih =>
      simp only [List.map_cons, List.filter_cons, ← ends_state hB s]
      split
      · simp only [List.countP_cons, ih, ← longest_state hB s]
      · exact ih
  have e : (vec l P M k (n + 1)).getD t 0 = (((level l k (n + 1)).countP fun s => longest P s == M[t] : Nat) : Int) := by
    unfold vec
    rw [List.getD_eq_getElem?_getD, List.getElem?_map, List.getElem?_eq_getElem ht]
    rfl
  rw [e]
  unfold vec
  rw [contrib_map]
  congr 1
  show _ = List.countP _ ((level l k n).flatMap _)
  rw [countP_flat, List.map_congr_left (fun s _ => h1 s)]
  rw [sum_states (M := M) (fun m => (((List.range k).map fun c => m ++ [letter c]).filter fun s => !endsL l s).countP fun s => longest P s == M[t]) _ (level_mem hC hB n) hC.nodup]
  congr 1
  apply List.map_congr_left
  intro m hm
  congr 1
  exact count_idx hC.nodup t ht m _ fun c hc => hC.next m hm c (by simpa using hc)
theorem sumI_map (g : Str → Nat) : ∀ M : List Str, sumI (M.map fun m => ((g m : Nat) : Int)) = (((M.map g).sum : Nat) : Int)
  | [] => rfl
  | m :: M => by simp only [List.map_cons, sumI, sumI_map g M, List.sum_cons, Int.natCast_add]
theorem vec_sum (hC : Closed l P M k) (hB : Begins l P) (n : Nat) : sumI (vec l P M k n) = (cnt l k n : Nat) := by
  unfold vec
  rw [sumI_map]
  have h := sum_states (M := M) (fun _ => 1) _ (level_mem hC hB n) hC.nodup
  simp only [Nat.mul_one, List.map_const'] at h
  rw [← h]
  simp [cnt]
theorem total_vec (hC : Closed l P M k) (hB : Begins l P) (n : Nat) : totalN (vec l P M k n) 0 = if (cnt l k n : Int) ≤ 4611686018427387904 then some (cnt l k n : Int) else none := by
  rw [total_law _ 0 (vec_nonneg n) (by omega), vec_sum hC hB n, Int.zero_add]
theorem row_lt (m : Str) : ∀ t ∈ rowM l P M k m, t ≤ (M.length : Int) := by
  intro t ht
  obtain ⟨c, _, rfl⟩ := List.mem_map.1 ht
  split
  · omega
  · have := List.idxOf_le_length (a := longest P (m ++ [letter c])) (l := M); omega
theorem row_lt' (hC : Closed l P M k) {m : Str} (hm : m ∈ M) : ∀ t ∈ rowM l P M k m, t < (M.length : Int) := by
  intro t ht
  obtain ⟨c, hc, rfl⟩ := List.mem_map.1 ht
  have hpos : 0 < M.length := by obtain ⟨t, e⟩ := hC.zero; rw [e]; simp
  split
  · omega
  · rename_i he
    have := List.idxOf_lt_length_iff.2 (hC.next m hm c (by simpa using hc) (by simpa using he)); omega
theorem list_ext_getD {a b : List Int} (hl : a.length = b.length) (h : ∀ t, t < a.length → a.getD t 0 = b.getD t 0) : a = b := by
  apply List.ext_getElem hl
  intro i h1 h2
  have := h i h1
  simpa [List.getD_eq_getElem?_getD, List.getElem?_eq_getElem h1, List.getElem?_eq_getElem h2] using this
theorem getD_rep (n t : Nat) : (List.replicate n (0 : Int)).getD t 0 = 0 := by
  rw [List.getD_eq_getElem?_getD, List.getElem?_replicate]; split <;> rfl
theorem spread_some (hC : Closed l P M k) (hB : Begins l P) (n : Nat) {x : List Int} (h : spread (M.map (rowM l P M k)) (vec l P M k n) = some x) : x = vec l P M k (n + 1) := by
  unfold spread at h
  obtain ⟨h1, h2⟩ := spreadN_some (vec_nonneg n) (by
    intro row hrow t ht
    obtain ⟨m, hm, rfl⟩ := List.mem_map.1 hrow
    simp only [List.length_replicate, vec_len]
    exact row_lt' hC hm t ht) h
  simp only [List.length_replicate, vec_len] at h1 h2
  refine list_ext_getD (by rw [h1, vec_len]) fun t ht => ?_
  rw [h1] at ht
  rw [h2 t ht, vec_step hC hB n t ht, getD_rep, Int.zero_add]
theorem spread_none (hC : Closed l P M k) (hB : Begins l P) (n : Nat) (h : spread (M.map (rowM l P M k)) (vec l P M k n) = none) : 4611686018427387904 < (cnt l k (n + 1) : Int) := by
  unfold spread at h
  obtain ⟨t, h1, h2⟩ := spreadN_none (vec_nonneg n) (by
    intro row hrow t ht
    obtain ⟨m, hm, rfl⟩ := List.mem_map.1 hrow
    simp only [List.length_replicate, vec_len]
    exact row_lt' hC hm t ht) h
  simp only [List.length_replicate, vec_len] at h1
  rw [vec_step hC hB n t h1, getD_rep, Int.zero_add] at h2
  have h3 := sumI_le (vec_nonneg (l := l) (P := P) (M := M) (k := k) (n + 1)) ((vec l P M k (n + 1)).getD t 0) (by
    rw [List.getD_eq_getElem?_getD, List.getElem?_eq_getElem (by rw [vec_len]; exact h1)]
    exact List.getElem_mem _)
  rw [vec_sum hC hB] at h3
  omega
/-- the counts of n letters and more -/
def countSpec (l : List Rule) (k i n : Nat) : Option (List Int) := if ∀ j, j ≤ n → (cnt l k (i + j) : Int) ≤ 4611686018427387904 then some ((List.range (n + 1)).map fun j => (cnt l k (i + j) : Int)) else none
theorem count_law (hC : Closed l P M k) (hB : Begins l P) : ∀ n i, countN (M.map (rowM l P M k)) n (vec l P M k i) = countSpec l k i n
  | 0, i => by
    unfold countN countSpec
    rw [total_vec hC hB]
    by_cases h : (cnt l k i : Int) ≤ 4611686018427387904
    · rw [if_pos h, if_pos (fun j hj => by obtain rfl : j = 0 := by omega
                                           exact h)]
      rfl
    · rw [if_neg h, if_neg (fun h' => h (h' 0 (by omega)))]
  | n + 1, i => by
    unfold countN countSpec
    rw [total_vec hC hB]
    by_cases h : (cnt l k i : Int) ≤ 4611686018427387904
    · rw [if_pos h]
      simp only
      cases hs : spread (M.map (rowM l P M k)) (vec l P M k i) with
      | none =>
        have := spread_none hC hB i hs
        rw [if_neg (fun h' => by have := h' 1 (by omega); omega)]
      | some x =>
        obtain rfl := spread_some hC hB i hs
        simp only
        rw [count_law hC hB n (i + 1)]
        unfold countSpec
        by_cases h2 : ∀ j, j ≤ n → (cnt l k (i + 1 + j) : Int) ≤ 4611686018427387904
        · rw [if_pos h2, if_pos (fun j hj => by
            cases j with
            | zero => exact h
            | succ j => have := h2 j (by omega); rwa [show i + (j + 1) = i + 1 + j from by omega])]
          rw [List.range_succ_eq_map (n := n + 1)]
          simp only [Option.map_some, List.map_cons, List.map_map, Nat.add_zero]
          congr 2
          apply List.map_congr_left
          intro j _
          simp only [Function.comp]
          rw [show i + 1 + j = i + (j + 1) from by omega]
        · rw [if_neg h2, if_neg (fun h' => h2 fun j hj => by have := h' (j + 1) (by omega); rwa [show i + 1 + j = i + (j + 1) from by omega])]
          rfl
    · rw [if_neg h, if_neg (fun h' => h (h' 0 (by omega)))]
/-- all strings of fewer than n letters -/
def cntTo (l : List Rule) (k i n : Nat) : Nat := ((List.range n).map fun j => cnt l k (i + j)).sum
theorem cntTo_succ (i n : Nat) : cntTo l k i (n + 1) = cnt l k i + cntTo l k (i + 1) n := by
  unfold cntTo
  rw [List.range_succ_eq_map, List.map_cons, List.sum_cons, List.map_map]
  congr 2
  apply List.map_congr_left
  intro j _
  simp only [Function.comp]
  rw [show i + (j + 1) = i + 1 + j from by omega]
theorem cnt_zero {n : Nat} (h : cnt l k n = 0) : ∀ m, cnt l k (n + m) = 0
  | 0 => h
  | m + 1 => by
    have h1 := cnt_zero h m
    unfold cnt at *
    have h2 := List.eq_nil_of_length_eq_zero h1
    show (level l k (n + m + 1)).length = 0
    unfold level
    rw [h2]
    rfl
theorem cntTo_zero {i : Nat} (h : cnt l k i = 0) (n : Nat) : cntTo l k i n = 0 := by
  unfold cntTo
  have : ((List.range n).map fun j => cnt l k (i + j)) = List.replicate n 0 := by
    apply List.ext_getElem (by simp)
    intro j h1 h2
    simp [cnt_zero h j]
  rw [this]
  simp
theorem size_law (hC : Closed l P M k) (hB : Begins l P) : ∀ n i (all : Int), 0 ≤ all → all ≤ 4611686018427387904 →
    sizeN (M.map (rowM l P M k)) n (vec l P M k i) all = if cnt l k (i + n) = 0 ∧ all + (cntTo l k i n : Int) ≤ 4611686018427387904 then some (all + (cntTo l k i n : Int)) else none
  | 0, i, all, h0, h1 => by
    unfold sizeN
    rw [total_vec hC hB]
    simp only [cntTo, List.range_zero, List.map_nil, List.sum_nil, Nat.add_zero]
    by_cases h : (cnt l k i : Int) ≤ 4611686018427387904
    · rw [if_pos h]
      simp only
      by_cases h2 : cnt l k i = 0
      · rw [if_neg (by omega), if_pos (by constructor <;> omega)]
        simp
      · rw [if_pos (by omega), if_neg (by omega)]
    · rw [if_neg h, if_neg (by omega)]
  | n + 1, i, all, h0, h1 => by
    unfold sizeN
    rw [total_vec hC hB, cntTo_succ]
    by_cases h : (cnt l k i : Int) ≤ 4611686018427387904
    · rw [if_pos h]
      simp only
      by_cases h2 : 4611686018427387904 - all < (cnt l k i : Int)
      · rw [if_pos h2, if_neg (by omega)]
      · rw [if_neg h2]
        by_cases h3 : (cnt l k i : Int) = 0
        · rw [if_pos h3]
          have h4 : cnt l k i = 0 := by omega
          have h5 := cnt_zero h4 1
          rw [cntTo_zero h5, cnt_zero h4]
          rw [if_pos (by constructor <;> omega)]
          simp [h4]
        · rw [if_neg h3]
          cases hs : spread (M.map (rowM l P M k)) (vec l P M k i) with
          | none =>
            have := spread_none hC hB i hs
            rw [if_neg]
            rintro ⟨e1, e2⟩
            cases n with
            | zero => rw [e1] at this; omega
            | succ n => rw [cntTo_succ] at e2; omega
          | some x =>
            obtain rfl := spread_some hC hB i hs
            simp only
            rw [size_law hC hB n (i + 1) (all + (cnt l k i : Int)) (by omega) (by omega)]
            rw [show i + (n + 1) = i + 1 + n from by omega]
            simp only [Int.natCast_add, Int.add_assoc]
    · rw [if_neg h, if_neg (by omega)]
end
/-! ### The program's automaton -/
theorem rowN_eq (l : List Rule) (P : List Str) (k : Nat) : rowN l P k = rowM l P P k := rfl
theorem closedP {l : List Rule} (k : Nat) : Closed l (states l) (states l) k :=
  ⟨states_zero l, states_nodup l, fun _ h => h, fun _ _ _ _ _ => longest_mem (states_nil l) _⟩
theorem countS_law {l : List Rule} (h : ∀ r ∈ l, r.1 ≠ []) (k n : Nat) : countS l k n = countSpec l k 0 n := by
  unfold countS tableN
  rw [rowN_eq, ← vec_zero (closedP k)]
  exact count_law (closedP k) (states_begins h) n 0
theorem sizeS_law {l : List Rule} (h : ∀ r ∈ l, r.1 ≠ []) (k : Nat) : sizeS l k = if cnt l k (states l).length = 0 ∧ (cntTo l k 0 (states l).length : Int) ≤ 4611686018427387904 then some (cntTo l k 0 (states l).length : Int) else none := by
  unfold sizeS tableN
  rw [rowN_eq, ← vec_zero (closedP k), size_law (closedP k) (states_begins h) _ 0 0 (by omega) (by omega)]
  simp
end Go.Proofs.Ytffghamcggadcaa
