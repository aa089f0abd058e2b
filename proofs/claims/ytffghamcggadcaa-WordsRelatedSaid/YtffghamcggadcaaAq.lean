/- What the automaton of a system computes, in plain Lean: its states, its table, the sums. No conditions: these are definitions and small facts. -/
import Derived.Test.YtffghamcggadcaaPu
namespace Go.Proofs.Ytffghamcggadcaa
set_option linter.unusedVariables false
set_option linter.unusedSimpArgs false
def addS (P : List Str) (s : Str) : List Str := if s ∈ P then P else P ++ [s]
/-- the proper beginnings of a rule's left side, of one letter and more; the first n of them -/
def begTo (r : Rule) (n : Nat) : List Str := (List.range n).map fun k => r.1.take (k + 1)
def beginnings (r : Rule) : List Str := begTo r (r.1.length - 1)
def states (l : List Rule) : List Str := (l.flatMap beginnings).foldl addS [[]]
def endsL (l : List Rule) (s : Str) : Bool := l.any fun r => suf r.1 s
/-- the longest end of a string that is in P -/
def longest (P : List Str) : Str → Str
  | [] => []
  | c :: s => if (c :: s) ∈ P then c :: s else longest P s
def letter (c : Nat) : UInt8 := UInt8.ofNat (97 + c)
def stepN (l : List Rule) (P : List Str) (s : Str) : Int := if endsL l s = true then -1 else (P.idxOf (longest P s) : Nat)
def rowN (l : List Rule) (P : List Str) (k : Nat) (s : Str) : List Int := (List.range k).map fun c => stepN l P (s ++ [letter c])
def tableN (l : List Rule) (P : List Str) (k : Nat) : List (List Int) := P.map (rowN l P k)
/-- the sum, if it is at most 2^62 -/
def totalN : List Int → Int → Option Int
  | [], s => some s
  | n :: l, s => if 4611686018427387904 - s < n then none else totalN l (s + n)
/-- a state's count is spread to the states that follow it -/
def spreadRow (n : Int) : List Int → List Int → Option (List Int)
  | [], out => some out
  | t :: row, out => if t < 0 then spreadRow n row out else
    if 4611686018427387904 < out.getD t.toNat 0 + n then none else spreadRow n row (out.set t.toNat (out.getD t.toNat 0 + n))
def spreadN : List (List Int) → List Int → List Int → Option (List Int)
  | row :: tab, n :: now, out => match spreadRow n row out with
    | none => none
    | some out => spreadN tab now out
  | _, _, out => some out
def spread (tab : List (List Int)) (now : List Int) : Option (List Int) := spreadN tab now (List.replicate now.length 0)
def startN (n : Nat) : List Int := (List.replicate n (0 : Int)).set 0 1
/-- n further numbers behind the first -/
def countN (tab : List (List Int)) : Nat → List Int → Option (List Int)
  | n, now => match totalN now 0 with
    | none => none
    | some s => match n with
      | 0 => some [s]
      | n + 1 => match spread tab now with
        | none => none
        | some next => (countN tab n next).map (s :: ·)
/-- n rounds at most; all: what has been counted -/
def sizeN (tab : List (List Int)) : Nat → List Int → Int → Option Int
  | 0, now, all => match totalN now 0 with
    | none => none
    | some s => if 0 < s then none else some all
  | n + 1, now, all => match totalN now 0 with
    | none => none
    | some s => if 4611686018427387904 - all < s then none else if s = 0 then some all else
      match spread tab now with
      | none => none
      | some next => sizeN tab n next (all + s)
def countS (l : List Rule) (k n : Nat) : Option (List Int) := countN (tableN l (states l) k) n (startN (states l).length)
def sizeS (l : List Rule) (k : Nat) : Option Int := sizeN (tableN l (states l) k) (states l).length (startN (states l).length) 0
/-! ### Small facts -/
theorem addS_mem {P : List Str} {s x : Str} : x ∈ addS P s ↔ x ∈ P ∨ x = s := by
  unfold addS
  split
  · constructor
    · exact .inl
    · rintro (h | rfl) <;> assumption
  · simp
theorem addS_nodup {P : List Str} {s : Str} (h : P.Nodup) : (addS P s).Nodup := by
  unfold addS
  split
  · exact h
  · rename_i hs
    rw [List.nodup_append]
    exact ⟨h, by simp, fun a ha b hb => by simp at hb; subst hb; intro e; subst e; exact hs ha⟩
theorem foldS_mem (m : List Str) : ∀ (P : List Str) (x : Str), x ∈ m.foldl addS P ↔ x ∈ P ∨ x ∈ m := by
  induction m with
  | nil => intro P x; simp
  | cons s m ih =>
    intro P x
    rw [List.foldl_cons, ih, addS_mem]
    simp [or_assoc]
theorem foldS_nodup (m : List Str) : ∀ (P : List Str), P.Nodup → (m.foldl addS P).Nodup := by
  induction m with
  | nil => intro P h; exact h
  | cons s m ih => intro P h; exact ih _ (addS_nodup h)
theorem addS_len (P : List Str) (s : Str) : (addS P s).length ≤ P.length + 1 := by unfold addS; split <;> simp
theorem foldS_len (m : List Str) : ∀ (P : List Str), (m.foldl addS P).length ≤ P.length + m.length := by
  induction m with
  | nil => intro P; simp
  | cons s m ih => intro P; have h1 := ih (addS P s); have h2 := addS_len P s; simp only [List.foldl_cons, List.length_cons]; omega
theorem addS_pre (P : List Str) (s : Str) : ∃ t, addS P s = P ++ t := by unfold addS; split; exact ⟨[], by simp⟩; exact ⟨[s], rfl⟩
theorem foldS_pre (m : List Str) : ∀ (P : List Str), ∃ t, m.foldl addS P = P ++ t := by
  induction m with
  | nil => intro P; exact ⟨[], by simp⟩
  | cons s m ih =>
    intro P
    obtain ⟨t, ht⟩ := addS_pre P s
    obtain ⟨u, hu⟩ := ih (addS P s)
    exact ⟨t ++ u, by rw [List.foldl_cons, hu, ht, List.append_assoc]⟩
theorem states_mem (l : List Rule) (x : Str) : x ∈ states l ↔ x = [] ∨ ∃ r ∈ l, x ∈ beginnings r := by
  unfold states
  rw [foldS_mem]
  simp [List.mem_flatMap]
theorem states_nil (l : List Rule) : [] ∈ states l := (states_mem l []).2 (.inl rfl)
theorem states_nodup (l : List Rule) : (states l).Nodup := foldS_nodup _ _ (by simp)
theorem states_zero (l : List Rule) : ∃ t, states l = [] :: t := by
  obtain ⟨t, ht⟩ := foldS_pre (l.flatMap beginnings) [[]]
  exact ⟨t, ht⟩
theorem flatMap_len' {α β : Type} (f : α → List β) (c : Nat) : ∀ (m : List α), (∀ x ∈ m, (f x).length ≤ c) → (m.flatMap f).length ≤ m.length * c
  | [], _ => by simp
  | x :: m, h => by
    have h1 := flatMap_len' f c m (fun y hy => h y (List.mem_cons_of_mem _ hy))
    have h2 := h x List.mem_cons_self
    simp only [List.flatMap_cons, List.length_append, List.length_cons, Nat.add_mul]
    omega
theorem states_len (l : List Rule) (hl : l.length ≤ 64) (ht : ∀ r ∈ l, r.1.length ≤ 24) : (states l).length ≤ 1537 := by
  have h1 := foldS_len (l.flatMap beginnings) [[]]
  have h2 := flatMap_len' beginnings 24 l fun r hr => by have := ht r hr; simp [beginnings, begTo]; omega
  have h3 := Nat.mul_le_mul_right 24 hl
  simp only [states, List.length_singleton] at *
  omega
theorem begTo_mem {r : Rule} {n : Nat} {x : Str} : x ∈ begTo r n ↔ ∃ k, k < n ∧ x = r.1.take (k + 1) := by
  unfold begTo
  simp only [List.mem_map, List.mem_range]
  constructor
  · rintro ⟨k, h1, h2⟩; exact ⟨k, h1, h2.symm⟩
  · rintro ⟨k, h1, h2⟩; exact ⟨k, h1, h2.symm⟩
theorem state_len {l : List Rule} (ht : ∀ r ∈ l, r.1.length ≤ 24) {x : Str} (h : x ∈ states l) : x.length ≤ 24 := by
  rcases (states_mem l x).1 h with rfl | ⟨r, hr, h⟩
  · simp
  · obtain ⟨k, _, rfl⟩ := begTo_mem.1 h
    have := ht r hr
    simp; omega
theorem longest_nil (P : List Str) : longest P [] = [] := rfl
theorem longest_hit {P : List Str} {s : Str} (h : s ∈ P) : longest P s = s := by
  cases s with
  | nil => rfl
  | cons c s => unfold longest; rw [if_pos h]
theorem longest_miss {P : List Str} {s : Str} (h : ¬ s ∈ P) (hn : [] ∈ P) : longest P s = longest P (s.drop 1) ∧ s ≠ [] := by
  cases s with
  | nil => exact absurd hn h
  | cons c s =>
    refine ⟨?_, by simp⟩
    conv => lhs; unfold longest
    rw [if_neg h]
    rfl
theorem longest_mem {P : List Str} (hn : [] ∈ P) : ∀ s : Str, longest P s ∈ P
  | [] => hn
  | c :: s => by
    unfold longest
    split
    · assumption
    · exact longest_mem hn s
theorem longest_suffix (P : List Str) : ∀ s : Str, longest P s <:+ s
  | [] => List.suffix_refl _
  | c :: s => by
    unfold longest
    split
    · exact List.suffix_refl _
    · exact (longest_suffix P s).trans (List.suffix_cons _ _)
/-- every end in P is an end of the longest one -/
theorem longest_max {P : List Str} : ∀ {s t : Str}, t ∈ P → t <:+ s → t <:+ longest P s
  | [], t, _, h => h
  | c :: s, t, ht, h => by
    unfold longest
    split
    · exact h
    · rename_i hn
      rcases List.suffix_cons_iff.1 h with rfl | h'
      · exact absurd ht hn
      · exact longest_max ht h'
theorem rowN_len (l : List Rule) (P : List Str) (k : Nat) (s : Str) : (rowN l P k s).length = k := by simp [rowN]
theorem startN_len (n : Nat) : (startN n).length = n := by simp [startN]
end Go.Proofs.Ytffghamcggadcaa
