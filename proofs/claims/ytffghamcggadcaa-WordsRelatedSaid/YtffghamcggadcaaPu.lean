/- What layer 5 computes, in plain Lean: strings are lists of bytes, a rule is a pair of strings. No conditions: these are definitions. -/
import Derived.Lib.Bytealg
namespace Go.Proofs.Ytffghamcggadcaa
abbrev Str := List UInt8
abbrev Rule := Str × Str

def letters (s : Str) : Bool := s.all fun c => 97 ≤ c && c ≤ 104
def isSide (s : Str) : Bool := decide (s.length ≤ 24) && letters s
def isEq (r : Rule) : Bool := isSide r.1 && isSide r.2
/-- the order of strings: -1, 0, 1 -/
def cmpN (a b : Nat) : Int := if a < b then -1 else if b < a then 1 else 0
def orI (x y : Int) : Int := if x = 0 then y else x
def orderS (a b : Str) : Int := orI (cmpN a.length b.length) (Lib.compareBytes a b)
def gt (a b : Str) : Bool := decide (0 < orderS a b)
def isRule (r : Rule) : Bool := isEq r && gt r.1 r.2
def isSystem (l : List Rule) : Bool := decide (l.length ≤ 64) && l.all isRule
def isString (s : Str) : Bool := decide (s.length ≤ 200) && letters s

/-- t is s's beginning, s's end -/
def pre (t s : Str) : Bool := t.isPrefixOf s
def suf (t s : Str) : Bool := t.isSuffixOf s
/-- the first step: its position and its rule -/
def first (l : List Rule) : Str → Option (Nat × Rule)
  | [] => none
  | c :: s => match l.find? fun r => pre r.1 (c :: s) with
    | some r => some (0, r)
    | none => (first l s).map fun p => (p.1 + 1, p.2)
def replaced (s : Str) (i : Nat) (r : Rule) : Str := s.take i ++ r.2 ++ s.drop (i + r.1.length)
def step (l : List Rule) (s : Str) : Option Str := (first l s).map fun p => replaced s p.1 p.2
/-- at most k steps more; n steps are done -/
def normalN (l : List Rule) : Nat → Str → Nat → Option (Str × Nat)
  | k, s, n => match step l s with
    | none => some (s, n)
    | some t => match k with
      | 0 => none
      | k + 1 => normalN l k t (n + 1)
def normal (l : List Rule) (s : Str) : Option (Str × Nat) := normalN l 20000 s 0
def nf (l : List Rule) (s : Str) : Option Str := (normal l s).map (·.1)

/-- the overlaps of a's end with b's beginning, of k letters and more -/
def overs (a b : Rule) (same : Bool) : List (Str × Str) :=
  ((List.range (min a.1.length b.1.length)).filter fun k => suf (b.1.take (k + 1)) a.1 && !(same && k + 1 == a.1.length)).map
    fun k => (a.2 ++ b.1.drop (k + 1), a.1.take (a.1.length - (k + 1)) ++ b.2)
def inners (a b : Rule) (same : Bool) : List (Str × Str) :=
  if same then [] else
  ((List.range (a.1.length - b.1.length - 1)).filter fun k => pre b.1 (a.1.drop (k + 1))).map fun k => (a.2, replaced a.1 (k + 1) b)
def overlaps (a b : Rule) (same : Bool) : List (Str × Str) := overs a b same ++ inners a b same
def pairs (l : List Rule) : List (Str × Str) :=
  l.zipIdx.flatMap fun p => l.zipIdx.flatMap fun q => overlaps p.1 q.1 (p.2 == q.2)
def forms (l : List Rule) (p : Str × Str) : Option (Str × Str) := match nf l p.1, nf l p.2 with
  | some a, some b => some (a, b)
  | _, _ => none
/-- the place of the first pair with two normal forms; 'none' inside: there is none; none: too many steps -/
def clashFrom (l : List Rule) : List (Str × Str) → Nat → Option (Option Nat)
  | [], _ => some none
  | p :: ps, i => match forms l p with
    | none => none
    | some (a, b) => if a = b then clashFrom l ps (i + 1) else some (some i)
def clash (l : List Rule) : Option (Option Nat) := clashFrom l (pairs l) 0

def directed (a b : Str) : Rule := if orderS a b < 0 then (b, a) else (a, b)
def byLeft (a b : Rule) : Int := orI (orderS a.1 b.1) (orderS a.2 b.2)
/-- a rule is put in at its place, unless it is there -/
def put (r : Rule) : List Rule → List Rule
  | [] => [r]
  | x :: l => if byLeft x r < 0 then x :: put r l else if x = r then x :: l else r :: x :: l
def putAll (l : List Rule) : List Rule := l.foldl (fun out r => put r out) []
def isNormal (l : List Rule) (k : Nat) (r : Rule) : Bool := (first (l.eraseIdx k) r.1).isNone && (first (l.eraseIdx k) r.2).isNone
/-- the first rule that is not normal by the others, from k on -/
def wrongFrom (l : List Rule) : List Rule → Nat → Option (Nat × Rule)
  | [], _ => none
  | r :: rest, k => if isNormal l k r then wrongFrom l rest (k + 1) else some (k, r)
def wrong (l : List Rule) : Option (Nat × Rule) := wrongFrom l l 0
def tidyN : Nat → List Rule → Option (List Rule)
  | n, l => match wrong l with
    | none => some l
    | some (k, r) => match n with
      | 0 => none
      | n + 1 => match forms (l.eraseIdx k) r with
        | none => none
        | some (a, b) => tidyN n (if a = b then l.eraseIdx k else put (directed a b) (l.eraseIdx k))
def tidy (l : List Rule) : Option (List Rule) := tidyN 2000 (putAll l)

def fits (l : List Rule) : Bool := decide (l.length ≤ 64) && l.all fun r => decide (r.1.length ≤ 24) && decide (r.2.length ≤ 24)
def settle (l : List Rule) : Option (List Rule) := if 400 < l.length then none else match tidy l with
  | none => none
  | some x => if fits x then some x else none
/-- the rules for the pairs with two normal forms -/
def fresh (l : List Rule) : List (Str × Str) → Option (List Rule)
  | [] => some []
  | p :: ps => match forms l p with
    | none => none
    | some (a, b) => match fresh l ps with
      | none => none
      | some out => some (if a = b then out else directed a b :: out)
def oriented (l : List Rule) : List Rule := (l.filter fun r => r.1 != r.2).map fun r => directed r.1 r.2
/-- rounds of completion -/
def rounds : Nat → List Rule → Option (List Rule × Bool)
  | k, l => match k with
    | 0 => match clash l with
      | none => none
      | some c => some (l, c.isNone)
    | k + 1 => match fresh l (pairs l) with
      | none => none
      | some [] => some (l, true)
      | some more => match settle (l ++ more) with
        | none => none
        | some x => rounds k x
def complete (eqs : List Rule) (k : Nat) : Option (List Rule × Bool) := match settle (oriented eqs) with
  | none => none
  | some l => rounds k l
def areEqs (l : List Rule) (k : Int) : Bool := decide (l.length ≤ 64) && l.all isEq && decide (0 ≤ k) && decide (k ≤ 12)

/-! ### Small facts -/
theorem prefix_take (s t : Str) : (s.take t.length == t) = pre t s := by
  unfold pre
  rw [Bool.eq_iff_iff, List.isPrefixOf_iff_prefix, List.prefix_iff_eq_take, beq_iff_eq]
  exact eq_comm
theorem prefix_long (s t : Str) (h : ¬ t.length ≤ s.length) : pre t s = false := by
  unfold pre
  rw [Bool.eq_false_iff]
  intro h1
  exact h (List.isPrefixOf_iff_prefix.1 h1).length_le
theorem suffix_drop (s t : Str) : (s.drop (s.length - t.length) == t) = suf t s := by
  unfold suf
  rw [Bool.eq_iff_iff, List.isSuffixOf_iff_suffix, List.suffix_iff_eq_drop, beq_iff_eq]
  exact eq_comm
theorem suffix_long (s t : Str) (h : ¬ t.length ≤ s.length) : suf t s = false := by
  unfold suf
  rw [Bool.eq_false_iff]
  intro h1
  exact h (List.isSuffixOf_iff_suffix.1 h1).length_le
theorem cmpN_zero {a b : Nat} : cmpN a b = 0 ↔ a = b := by unfold cmpN; split <;> (try split) <;> omega
theorem letters_snoc (s : Str) (k : Nat) (h : k < s.length) (hl : letters (s.take k) = true) (h1 : 97 ≤ (s[k].toNat : Int)) (h2 : (s[k].toNat : Int) ≤ 104) : letters (s.take (k + 1)) = true := by
  rw [List.take_succ_eq_append_getElem h]
  unfold letters at *
  rw [List.all_append, hl]
  simp [UInt8.le_iff_toNat_le]
  omega
theorem letters_bad (s : Str) (k : Nat) (h : k < s.length) (h1 : (s[k].toNat : Int) < 97 ∨ 104 < (s[k].toNat : Int)) : letters s = false := by
  unfold letters
  rw [List.all_eq_false]
  refine ⟨s[k], List.getElem_mem h, ?_⟩
  simp [UInt8.le_iff_toNat_le]
  omega
/-- no step begins before k -/
def FirstFrom (l : List Rule) (s : Str) (k : Nat) : Prop := first l s = (first l (s.drop k)).map fun p => (p.1 + k, p.2)
theorem FirstFrom.zero (l : List Rule) (s : Str) : FirstFrom l s 0 := by
  unfold FirstFrom
  cases h : first l (s.drop 0) with
  | none => simpa using h
  | some p => simpa using h
theorem first_drop (l : List Rule) (s : Str) (k : Nat) (h : k < s.length) : first l (s.drop k) = match l.find? fun r => pre r.1 (s.drop k) with
    | some r => some (0, r)
    | none => (first l (s.drop (k + 1))).map fun p => (p.1 + 1, p.2) := by
  rw [List.drop_eq_getElem_cons h]
  rfl
theorem find_none (l : List Rule) (s : Str) (h : ∀ i (hi : i < l.length), pre l[i].1 s = false) : (l.find? fun r => pre r.1 s) = none := by
  rw [List.find?_eq_none]
  intro r hr
  obtain ⟨i, hi, rfl⟩ := List.getElem_of_mem hr
  simp [h i hi]
theorem find_some (l : List Rule) (s : Str) (j : Nat) (hj : j < l.length) (h : ∀ i (hi : i < j), pre l[i].1 s = false) (hp : pre l[j].1 s = true) : (l.find? fun r => pre r.1 s) = some l[j] := by
  rw [List.find?_eq_some_iff_getElem]
  exact ⟨hp, j, hj, rfl, fun i hi => by simp [h i hi]⟩
theorem FirstFrom.step {l : List Rule} {s : Str} {k : Nat} (hk : k < s.length) (hf : FirstFrom l s k) (h : ∀ i (hi : i < l.length), pre l[i].1 (s.drop k) = false) : FirstFrom l s (k + 1) := by
  unfold FirstFrom at *
  rw [hf, first_drop l s k hk, find_none l _ h, Option.map_map]
  congr 1
  funext p
  simp [Nat.add_comm, Nat.add_left_comm]
theorem FirstFrom.hit {l : List Rule} {s : Str} {k j : Nat} (hk : k < s.length) (hf : FirstFrom l s k) (hj : j < l.length) (h : ∀ i (hi : i < j), pre l[i].1 (s.drop k) = false) (hp : pre l[j].1 (s.drop k) = true) :
    first l s = some (k, l[j]) := by
  unfold FirstFrom at hf
  rw [hf, first_drop l s k hk, find_some l _ j hj h hp]
  simp
theorem FirstFrom.miss {l : List Rule} {s : Str} (hf : FirstFrom l s s.length) : first l s = none := by
  unfold FirstFrom at hf
  rw [hf, List.drop_length]
  rfl
/-! ### Steps do not make a string longer -/
def Dec (l : List Rule) : Prop := ∀ r, r ∈ l → r.2.length ≤ r.1.length
theorem first_spec {l : List Rule} : ∀ {s : Str} {i : Nat} {r : Rule}, first l s = some (i, r) → r ∈ l ∧ i + r.1.length ≤ s.length ∧ pre r.1 (s.drop i) = true
  | [], i, r, h => by simp [first] at h
  | c :: s, i, r, h => by
    unfold first at h
    cases hf : l.find? fun r => pre r.1 (c :: s) with
    | some x =>
      rw [hf] at h
      simp only [Option.some.injEq, Prod.mk.injEq] at h
      obtain ⟨rfl, rfl⟩ := h
      have h1 := List.find?_some hf
      refine ⟨List.mem_of_find?_eq_some hf, ?_, h1⟩
      have := (List.isPrefixOf_iff_prefix.1 h1).length_le
      omega
    | none =>
      rw [hf] at h
      simp only [Option.map_eq_some_iff] at h
      obtain ⟨⟨j, x⟩, h1, h2⟩ := h
      simp only [Prod.mk.injEq] at h2
      obtain ⟨rfl, rfl⟩ := h2
      obtain ⟨a, b, d⟩ := first_spec h1
      refine ⟨a, ?_, ?_⟩
      · simp only [List.length_cons]; omega
      · simpa using d
theorem replaced_le {s : Str} {i : Nat} {r : Rule} (h : i + r.1.length ≤ s.length) (hr : r.2.length ≤ r.1.length) : (replaced s i r).length ≤ s.length := by
  simp [replaced]
  omega
theorem normalN_none {l : List Rule} {t : Str} (h : first l t = none) (k n : Nat) : normalN l k t n = some (t, n) := by
  unfold normalN step
  rw [h]
  rfl
theorem normalN_stop {l : List Rule} {t : Str} {i : Nat} {r : Rule} (h : first l t = some (i, r)) (n : Nat) : normalN l 0 t n = none := by
  unfold normalN step
  rw [h]
  rfl
theorem normalN_go {l : List Rule} {t : Str} {i : Nat} {r : Rule} (h : first l t = some (i, r)) (k n : Nat) : normalN l (k + 1) t n = normalN l k (replaced t i r) (n + 1) := by
  conv => lhs; unfold normalN step
  rw [h]
  rfl
end Go.Proofs.Ytffghamcggadcaa
