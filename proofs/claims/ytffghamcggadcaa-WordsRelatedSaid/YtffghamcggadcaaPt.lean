/- The order of strings and of rules is a total order. No conditions. -/
import Derived.Test.YtffghamcggadcaaPu
namespace Go.Proofs.Ytffghamcggadcaa
open Lib
theorem cb_self : ∀ a : Str, compareBytes a a = 0
  | [] => rfl
  | c :: a => by
    have h : ¬ c < c := by simp
    simp only [compareBytes, if_neg h]
    exact cb_self a
theorem cb_eq : ∀ {a b : Str}, compareBytes a b = 0 → a = b
  | [], [], _ => rfl
  | [], _ :: _, h => by simp [compareBytes] at h
  | _ :: _, [], h => by simp [compareBytes] at h
  | c :: a, d :: b, h => by
    unfold compareBytes at h
    split at h
    · omega
    · split at h
      · omega
      · rename_i h1 h2
        have : c = d := UInt8.le_antisymm (UInt8.not_lt.1 h2) (UInt8.not_lt.1 h1)
        subst this
        rw [cb_eq h]
theorem cb_anti : ∀ a b : Str, compareBytes b a = - compareBytes a b
  | [], [] => rfl
  | [], _ :: _ => rfl
  | _ :: _, [] => rfl
  | c :: a, d :: b => by
    unfold compareBytes
    by_cases h1 : c < d
    · have h2 : ¬ d < c := fun h => absurd (UInt8.lt_trans h1 h) (by simp)
      rw [if_neg h2, if_pos h1, if_pos h1]; rfl
    · by_cases h2 : d < c
      · rw [if_pos h2, if_neg h1, if_pos h2]
      · rw [if_neg h2, if_neg h1, if_neg h1, if_neg h2]
        exact cb_anti a b
theorem cb_trans : ∀ {a b c : Str}, compareBytes a b < 0 → compareBytes b c < 0 → compareBytes a c < 0
  | [], [], _, h, _ => by simp [compareBytes] at h
  | _ :: _, [], _, h, _ => by simp [compareBytes] at h
  | [], _ :: _, [], _, h => by simp [compareBytes] at h
  | [], _ :: _, _ :: _, _, _ => by simp [compareBytes]
  | _ :: _, _ :: _, [], _, h => by simp [compareBytes] at h
  | x :: a, y :: b, z :: c, h1, h2 => by
    unfold compareBytes at h1 h2 ⊢
    by_cases p : x < y
    · by_cases q : y < z
      · rw [if_pos (UInt8.lt_trans p q)]; omega
      · rw [if_neg q] at h2
        by_cases r : z < y
        · rw [if_pos r] at h2; omega
        · have : y = z := UInt8.le_antisymm (UInt8.not_lt.1 r) (UInt8.not_lt.1 q)
          subst this
          rw [if_pos p]; omega
    · rw [if_neg p] at h1
      by_cases p' : y < x
      · rw [if_pos p'] at h1; omega
      · rw [if_neg p'] at h1
        have : x = y := UInt8.le_antisymm (UInt8.not_lt.1 p') (UInt8.not_lt.1 p)
        subst this
        by_cases q : x < z
        · rw [if_pos q]; omega
        · rw [if_neg q] at h2 ⊢
          by_cases r : z < x
          · rw [if_pos r] at h2; omega
          · rw [if_neg r] at h2 ⊢
            exact cb_trans h1 h2
theorem orI_zero {x y : Int} : orI x y = 0 ↔ x = 0 ∧ y = 0 := by unfold orI; split <;> omega
theorem orI_neg {x y : Int} : orI x y < 0 ↔ x < 0 ∨ x = 0 ∧ y < 0 := by unfold orI; split <;> omega
theorem orI_anti (x y : Int) : orI (-x) (-y) = - orI x y := by unfold orI; split <;> split <;> omega
theorem cmpN_anti (a b : Nat) : cmpN b a = - cmpN a b := by unfold cmpN; split <;> split <;> (try split) <;> omega
theorem cmpN_neg {a b : Nat} : cmpN a b < 0 ↔ a < b := by unfold cmpN; split <;> (try split) <;> omega
theorem os_self (a : Str) : orderS a a = 0 := orI_zero.2 ⟨cmpN_zero.2 rfl, cb_self a⟩
theorem os_eq {a b : Str} (h : orderS a b = 0) : a = b := cb_eq (orI_zero.1 h).2
theorem os_anti (a b : Str) : orderS b a = - orderS a b := by
  unfold orderS
  rw [cmpN_anti a.length b.length, cb_anti a b, orI_anti]
theorem os_lt {a b : Str} : orderS a b < 0 ↔ a.length < b.length ∨ a.length = b.length ∧ compareBytes a b < 0 := by
  unfold orderS
  rw [orI_neg, cmpN_neg, cmpN_zero]
theorem os_trans {a b c : Str} (h1 : orderS a b < 0) (h2 : orderS b c < 0) : orderS a c < 0 := by
  rw [os_lt] at *
  rcases h1 with h1 | ⟨h1, h1'⟩ <;> rcases h2 with h2 | ⟨h2, h2'⟩
  · exact .inl (by omega)
  · exact .inl (by omega)
  · exact .inl (by omega)
  · exact .inr ⟨by omega, cb_trans h1' h2'⟩
theorem bl_self (a : Rule) : byLeft a a = 0 := orI_zero.2 ⟨os_self _, os_self _⟩
theorem bl_eq {a b : Rule} (h : byLeft a b = 0) : a = b := Prod.ext (os_eq (orI_zero.1 h).1) (os_eq (orI_zero.1 h).2)
theorem bl_anti (a b : Rule) : byLeft b a = - byLeft a b := by
  unfold byLeft
  rw [os_anti a.1 b.1, os_anti a.2 b.2, orI_anti]
theorem bl_lt {a b : Rule} : byLeft a b < 0 ↔ orderS a.1 b.1 < 0 ∨ a.1 = b.1 ∧ orderS a.2 b.2 < 0 := by
  unfold byLeft
  rw [orI_neg]
  constructor
  · rintro (h | ⟨h, h'⟩)
    · exact .inl h
    · exact .inr ⟨os_eq h, h'⟩
  · rintro (h | ⟨h, h'⟩)
    · exact .inl h
    · exact .inr ⟨by rw [h]; exact os_self _, h'⟩
theorem bl_trans {a b c : Rule} (h1 : byLeft a b < 0) (h2 : byLeft b c < 0) : byLeft a c < 0 := by
  rw [bl_lt] at *
  rcases h1 with h1 | ⟨h1, h1'⟩ <;> rcases h2 with h2 | ⟨h2, h2'⟩
  · exact .inl (os_trans h1 h2)
  · exact .inl (h2 ▸ h1)
  · exact .inl (h1 ▸ h2)
  · exact .inr ⟨h1.trans h2, os_trans h1' h2'⟩
theorem bl_total (a b : Rule) : byLeft a b < 0 ∨ a = b ∨ byLeft b a < 0 := by
  have h := bl_anti a b
  rcases Int.lt_trichotomy (byLeft a b) 0 with h1 | h1 | h1
  · exact .inl h1
  · exact .inr (.inl (bl_eq h1))
  · exact .inr (.inr (by omega))
theorem bl_irrefl (a : Rule) : ¬ byLeft a a < 0 := by rw [bl_self]; omega
theorem bl_ntrans {a b c : Rule} (h1 : ¬ byLeft a b < 0) (h2 : ¬ byLeft b c < 0) : ¬ byLeft a c < 0 := by
  rcases bl_total b a with h | rfl | h
  · rcases bl_total c b with h' | rfl | h'
    · have := bl_trans h' h
      have := bl_anti c a
      omega
    · exact h1
    · exact absurd h' h2
  · exact h2
  · exact absurd h h1
theorem gt_iff {a b : Str} : gt a b = true ↔ orderS b a < 0 := by
  unfold gt
  rw [os_anti b a]
  simp
/-! ### Sorted lists of rules -/
def Sorted (l : List Rule) : Prop := l.Pairwise fun x y => byLeft x y < 0
def WSorted (l : List Rule) : Prop := l.Pairwise fun x y => ¬ byLeft y x < 0
theorem put_mem {r x : Rule} : ∀ {l : List Rule}, x ∈ put r l ↔ x = r ∨ x ∈ l
  | [] => by simp [put]
  | y :: l => by
    unfold put
    split
    · simp only [List.mem_cons, put_mem (l := l)]
      constructor
      · rintro (h | h | h) <;> simp [h]
      · rintro (h | h | h) <;> simp [h]
    · split
      · rename_i h
        subst h
        simp
      · simp
theorem put_sorted {r : Rule} : ∀ {l : List Rule}, Sorted l → Sorted (put r l)
  | [], _ => by simp [put, Sorted]
  | y :: l, h => by
    have hc := List.pairwise_cons.1 h
    unfold put
    split
    · rename_i h1
      refine List.pairwise_cons.2 ⟨fun x hx => ?_, put_sorted hc.2⟩
      rcases put_mem.1 hx with rfl | hx
      · exact h1
      · exact hc.1 x hx
    · split
      · exact h
      · rename_i h1 h2
        refine List.pairwise_cons.2 ⟨fun x hx => ?_, h⟩
        have h3 : byLeft r y < 0 := by
          rcases bl_total y r with h' | h' | h'
          · exact absurd h' h1
          · exact absurd h' h2
          · exact h'
        rcases List.mem_cons.1 hx with rfl | hx
        · exact h3
        · exact bl_trans h3 (hc.1 x hx)
/-- sorted lists with the same elements are equal -/
theorem sorted_ext : ∀ {l m : List Rule}, Sorted l → Sorted m → (∀ x, x ∈ l ↔ x ∈ m) → l = m
  | [], [], _, _, _ => rfl
  | [], y :: m, _, _, h => by simpa using (h y).2 (by simp)
  | x :: l, [], _, _, h => by simpa using (h x).1 (by simp)
  | x :: l, y :: m, hl, hm, h => by
    have cl := List.pairwise_cons.1 hl
    have cm := List.pairwise_cons.1 hm
    have hxy : x = y := by
      rcases List.mem_cons.1 ((h x).1 (by simp)) with e | hx
      · exact e
      · rcases List.mem_cons.1 ((h y).2 (by simp)) with e | hy
        · exact e.symm
        · exact absurd (bl_trans (cl.1 y hy) (cm.1 x hx)) (bl_irrefl x)
    subst hxy
    rw [sorted_ext cl.2 cm.2 fun z => ?_]
    have hz := h z
    simp only [List.mem_cons] at hz
    constructor
    · intro h1
      rcases hz.1 (.inr h1) with rfl | h2
      · exact absurd (cl.1 z h1) (bl_irrefl z)
      · exact h2
    · intro h1
      rcases hz.2 (.inr h1) with rfl | h2
      · exact absurd (cm.1 z h1) (bl_irrefl z)
      · exact h2
theorem putAll_aux : ∀ (l out : List Rule), Sorted out → Sorted (l.foldl (fun out r => put r out) out) ∧ ∀ x, x ∈ l.foldl (fun out r => put r out) out ↔ x ∈ l ∨ x ∈ out
  | [], out, h => ⟨h, fun x => by simp⟩
  | r :: l, out, h => by
    obtain ⟨h1, h2⟩ := putAll_aux l (put r out) (put_sorted h)
    refine ⟨h1, fun x => ?_⟩
    rw [List.foldl_cons, h2, put_mem, List.mem_cons]
    constructor
    · rintro (h | h | h) <;> simp [h]
    · rintro ((h | h) | h) <;> simp [h]
theorem putAll_sorted (l : List Rule) : Sorted (putAll l) := (putAll_aux l [] List.Pairwise.nil).1
theorem putAll_mem (l : List Rule) (x : Rule) : x ∈ putAll l ↔ x ∈ l := by
  have := (putAll_aux l [] List.Pairwise.nil).2 x
  simpa [putAll] using this
/-- of equal neighbours one is kept -/
def dedup : List Rule → List Rule
  | [] => []
  | [x] => [x]
  | x :: y :: l => if x = y then dedup (y :: l) else x :: dedup (y :: l)
theorem dedup_mem : ∀ (l : List Rule) (x : Rule), x ∈ dedup l ↔ x ∈ l
  | [], x => by simp [dedup]
  | [y], x => by simp [dedup]
  | y :: z :: l, x => by
    unfold dedup
    split
    · rename_i h
      subst h
      rw [dedup_mem (y :: l) x]
      simp
    · rw [List.mem_cons, dedup_mem (z :: l) x, List.mem_cons (a := x) (b := y)]
theorem dedup_sorted : ∀ (l : List Rule), WSorted l → Sorted (dedup l)
  | [], _ => List.Pairwise.nil
  | [y], _ => by simp [dedup, Sorted]
  | y :: z :: l, h => by
    have hc := List.pairwise_cons.1 h
    unfold dedup
    split
    · exact dedup_sorted (z :: l) hc.2
    · rename_i hne
      refine List.pairwise_cons.2 ⟨fun x hx => ?_, dedup_sorted (z :: l) hc.2⟩
      have hx' := (dedup_mem _ _).1 hx
      rcases bl_total y x with h1 | h1 | h1
      · exact h1
      · subst h1
        have hz := hc.1 z (by simp)
        rcases List.mem_cons.1 hx' with e | hx''
        · exact absurd e hne
        · have := (List.pairwise_cons.1 hc.2).1 y hx''
          rcases bl_total y z with h2 | h2 | h2
          · exact absurd h2 this
          · exact absurd h2 hne
          · exact absurd h2 hz
      · exact absurd h1 (hc.1 x hx')
theorem dedup_of_perm {l m : List Rule} (hp : m.Perm l) (hs : WSorted m) : dedup m = putAll l :=
  sorted_ext (dedup_sorted m hs) (putAll_sorted l) fun x => by rw [dedup_mem, putAll_mem, hp.mem_iff]
theorem dedup_snoc : ∀ (m : List Rule) (y x : Rule), dedup (m ++ [y] ++ [x]) = if y = x then dedup (m ++ [y]) else dedup (m ++ [y]) ++ [x]
  | [], y, x => by
    simp only [List.nil_append, List.cons_append, dedup]
    split
    · rename_i h; subst h; rfl
    · rfl
  | [a], y, x => by
    have h := dedup_snoc [] y x
    simp only [List.nil_append, List.cons_append] at h ⊢
    unfold dedup
    rw [h]
    by_cases h1 : a = y <;> by_cases h2 : y = x <;> simp [h1, h2]
  | a :: b :: m, y, x => by
    have h := dedup_snoc (b :: m) y x
    simp only [List.cons_append] at h ⊢
    unfold dedup
    rw [h]
    by_cases h1 : a = b <;> by_cases h2 : y = x <;> simp [h1, h2]
/-- no two neighbours among the first k are equal -/
def NoTwins (l : List Rule) (k : Nat) : Prop := ∀ i (h : i + 1 < l.length), i + 1 < k → l[i] ≠ l[i + 1]
theorem dedup_noTwins : ∀ (l : List Rule) (k : Nat), k ≤ l.length → NoTwins l k → dedup (l.take k) = l.take k
  | _, 0, _, _ => by simp [dedup]
  | l, k + 1, h, hn => by
    have ih := dedup_noTwins l k (by omega) (fun i h1 h2 => hn i h1 (by omega))
    rw [List.take_succ_eq_append_getElem (by omega)]
    rcases k with _ | k
    · simp [dedup]
    · rw [List.take_succ_eq_append_getElem (by omega), dedup_snoc, if_neg (hn k (by omega) (by omega)), ← List.take_succ_eq_append_getElem (by omega), ih]
theorem dedup_take_succ (l : List Rule) (k : Nat) (h1 : 1 ≤ k) (h : k < l.length) : dedup (l.take (k + 1)) = if l[k - 1] = l[k] then dedup (l.take k) else dedup (l.take k) ++ [l[k]] := by
  obtain ⟨k, rfl⟩ : ∃ j, k = j + 1 := ⟨k - 1, by omega⟩
  have e : l.take (k + 1) = l.take k ++ [l[k]] := List.take_succ_eq_append_getElem (by omega)
  rw [List.take_succ_eq_append_getElem h, e, dedup_snoc]
  simp
end Go.Proofs.Ytffghamcggadcaa
