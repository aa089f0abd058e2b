/- Contracts of the generic functions of package slices at rules: looking for an element by a function. Conditions: the function answers as its Lean namesake, and only makes memory. -/
import Derived.Test.YtffghamcggadcaaC3
namespace Go.Proofs.Ytffghamcggadcaa
open Go.RowKit
set_option linter.unusedVariables false
set_option linter.unusedSimpArgs false
attribute [local go_sem] B_size B_toList B_append B_extract B_get take_rest
/-- the place of the first rule that p holds of; -1 -/
def idx (p : Rule → Bool) (l : List Rule) : Int := match l.findIdx? p with | some i => i | none => -1
set_option maxHeartbeats 1000000 in
set_option maxRecDepth 20000 in
theorem indexFunc_any (l : List Rule) (A : Option Addr) (c : Nat) (g : FuncId) (cb : Array Value) (p : Rule → Bool) (w : World) (hn : l.length ≤ 1000000000) (hl : RAt w A l)
    (he : ∀ args w, (callFunc g args).run Try.prog w = .ok (.enter g args) w)
    (hp : ∀ w' r, Gr w w' → r ∈ l → Calls Try.prog g (#[.agg #[.string (B r.1), .string (B r.2)]] ++ cb) w' fun e w'' => e = .returned (.bool (p r)) ∧ Gr w' w'') :
    Calls Try.prog 59 #[.slice A l.length c, .func (.func g) #[] cb] w fun e w' => e = .returned (.int .i64 (idx p l)) ∧ Gr w w' := by
  have Hl := Lib.hid hl
  have Hp := Lib.hid hp
  clear hl hp
  go_enter Try.func59, Try.ntmps59
  go_wp2
  go_loopw [8] (fun i wr => ∃ j : Nat, j ≤ l.length ∧ i = .int .i64 j ∧ Hid (∀ i (hi : i < l.length), i < j → p l[i] = false) ∧ Hid (Gr w wr)) (fun i _ => l.length - (intOf i).toNat)
  case atStart => exact ⟨0, Nat.zero_le _, rfl, fun i _ h => absurd h (by omega), Kp.refl _ _⟩
  case round =>
    obtain ⟨j, hj, rfl, hm, hg⟩ := hrel
    by_cases hlt : j < l.length
    · obtain ⟨ad, rfl, h0, h1⟩ := (RAt.get (Hl.out.gr hg.out) hlt)
      go_wp2_with fail
      refine (Hp.out wr l[j] hg.out (List.getElem_mem hlt)).mono ?_
      rintro e w1 ⟨rfl, hg1⟩
      have Hg1 := Lib.hid hg1
      clear hg1
      rcases hpj : p l[j] with _ | _
      · go_wp2
        go_roundw
        case rel => exact ⟨j + 1, by omega, by go_num, fun i h1 h2 => by
          by_cases e : i = j
          · subst e; exact hpj
          · exact hm.out i h1 (by omega), hg.out.trans Hg1.out⟩
        case measure => simp [intOf]; omega
      · have Hpj := Lib.hid hpj
        clear hpj
        go_wp2
        go_ret
        refine ⟨ret_int ?_, hg.out.trans Hg1.out⟩
        unfold idx
        rw [List.findIdx?_eq_some_iff_getElem.2 ⟨hlt, Hpj.out, fun i hi => by simp [hm.out i (by omega) hi]⟩]
    · go_wp2
      go_ret
      refine ⟨ret_int ?_, hg.out⟩
      unfold idx
      rw [List.findIdx?_eq_none_iff.2]
      intro r hr
      obtain ⟨i, hi, rfl⟩ := List.getElem_of_mem hr
      exact hm.out i hi (by omega)
theorem idx_nonneg (p : Rule → Bool) (l : List Rule) : decide (0 ≤ idx p l) = l.any p := by
  unfold idx
  cases h : l.findIdx? p with
  | none =>
    rw [List.findIdx?_eq_none_iff] at h
    symm
    simpa using h
  | some i =>
    have h1 := List.findIdx?_eq_some_iff_getElem.1 h
    obtain ⟨hi, hp, _⟩ := h1
    have : l.any p = true := List.any_eq_true.2 ⟨l[i], List.getElem_mem hi, hp⟩
    rw [this]
    simp
set_option maxHeartbeats 1000000 in
set_option maxRecDepth 20000 in
theorem containsFunc_any (l : List Rule) (A : Option Addr) (c : Nat) (g : FuncId) (cb : Array Value) (p : Rule → Bool) (w : World) (hn : l.length ≤ 1000000000) (hl : RAt w A l)
    (he : ∀ args w, (callFunc g args).run Try.prog w = .ok (.enter g args) w)
    (hp : ∀ w' r, Gr w w' → r ∈ l → Calls Try.prog g (#[.agg #[.string (B r.1), .string (B r.2)]] ++ cb) w' fun e w'' => e = .returned (.bool (p r)) ∧ Gr w' w'') :
    Calls Try.prog 37 #[.slice A l.length c, .func (.func g) #[] cb] w fun e w' => e = .returned (.bool (l.any p)) ∧ Gr w w' := by
  have Hl := Lib.hid hl
  have Hp := Lib.hid hp
  have He := Lib.hid he
  clear hl hp he
  go_enter Try.func37, Try.ntmps37
  go_wp2_with fail
  refine (indexFunc_any l A c g cb p w hn Hl.out He.out Hp.out).mono ?_
  rintro e w1 ⟨rfl, hg1⟩
  have Hg1 := Lib.hid hg1
  clear hg1
  go_wp2
  go_ret
  exact ⟨ret_bool (idx_nonneg p l), Hg1.out⟩
set_option maxHeartbeats 1000000 in
set_option maxRecDepth 20000 in
theorem isSystem_any (l : List Rule) (A : Option Addr) (c : Nat) (w : World) (hn : l.length ≤ 1000000000) (hL : ∀ r ∈ l, r.1.length ≤ 1000000000 ∧ r.2.length ≤ 1000000000) (hl : RAt w A l) :
    Calls Try.prog 33 #[.slice A l.length c] w fun e w' => e = .returned (.bool (isSystem l)) ∧ Gr w w' := by
  have Hl := Lib.hid hl
  have HL := Lib.hid hL
  clear hl hL
  by_cases h : l.length ≤ 64
  · go_enter Try.func33, Try.ntmps33
    go_wp2_with fail
    refine (containsFunc_any l A c 47 #[] (fun r => !isRule r) w hn Hl.out (enters' Try.func47 (by kernel_rfl) rfl) (fun w' r hg hr => by rw [Array.append_empty]; exact isSystem1_any r w' (HL.out r hr).1 (HL.out r hr).2)).mono ?_
    rintro e w1 ⟨rfl, hg1⟩
    have Hg1 := Lib.hid hg1
    clear hg1
    go_wp2
    go_ret
    refine ⟨ret_bool ?_, Hg1.out⟩
    simp [isSystem, h, List.any_eq_not_all_not]
  · go_enter Try.func33, Try.ntmps33
    go_wp2
    go_ret
    exact ⟨ret_bool (by simp [isSystem, h]), Kp.refl _ _⟩
set_option maxHeartbeats 1000000 in
theorem areEquations1_any (r : Rule) (w : World) (h1 : r.1.length ≤ 1000000000) (h2 : r.2.length ≤ 1000000000) :
    Calls Try.prog 38 #[.agg #[.string (B r.1), .string (B r.2)]] w fun e w' => e = .returned (.bool (!isEq r)) ∧ Gr w w' := by
  go_enter Try.func38, Try.ntmps38
  go_wp2_with fail
  refine (isEquation_any r.1 r.2 _ h1 h2).mono ?_
  rintro e w1 ⟨rfl, hg1⟩
  have Hg1 := Lib.hid hg1
  clear hg1
  go_wp2
  go_ret
  exact ⟨rfl, ((Kp.refl _ _).alloc _).trans Hg1.out⟩
set_option maxHeartbeats 1000000 in
set_option maxRecDepth 20000 in
theorem areEquations_any (l : List Rule) (k : Int) (A : Option Addr) (c : Nat) (w : World) (hn : l.length ≤ 1000000000) (hL : ∀ r ∈ l, r.1.length ≤ 1000000000 ∧ r.2.length ≤ 1000000000) (hl : RAt w A l) :
    Calls Try.prog 23 #[.slice A l.length c, .int .i64 k] w fun e w' => e = .returned (.bool (areEqs l k)) ∧ Gr w w' := by
  have Hl := Lib.hid hl
  have HL := Lib.hid hL
  clear hl hL
  by_cases h : l.length ≤ 64
  · rcases hq : l.any (fun r => !isEq r) with _ | _
    all_goals
      have Hq := Lib.hid hq
      clear hq
      obtain h0 | ⟨h0, h12⟩ | ⟨h0, h12⟩ : k < 0 ∨ (0 ≤ k ∧ k ≤ 12) ∨ (0 ≤ k ∧ 12 < k) := by omega
      all_goals
        go_enter Try.func23, Try.ntmps23
        go_wp2_with fail
        refine (containsFunc_any l A c 38 #[] (fun r => !isEq r) w hn Hl.out (enters' Try.func38 (by kernel_rfl) rfl) (fun w' r hg hr => by rw [Array.append_empty]; exact areEquations1_any r w' (HL.out r hr).1 (HL.out r hr).2)).mono ?_
        rintro e w1 ⟨rfl, hg1⟩
        have Hg1 := Lib.hid hg1
        clear hg1
        rw [Hq.out]
        go_wp2
        go_ret
        refine ⟨ret_bool ?_, Hg1.out⟩
        have hq := Hq.out
        rw [List.any_eq_not_all_not] at hq
        simp only [Bool.not_not] at hq
        unfold areEqs
        revert hq
        cases l.all isEq <;> simp [h] <;> omega
  · go_enter Try.func23, Try.ntmps23
    go_wp2
    go_ret
    exact ⟨ret_bool (by simp [areEqs, h]), Kp.refl _ _⟩
set_option maxHeartbeats 1000000 in
theorem fits1_any (r : Rule) (w : World) (h1 : r.1.length ≤ 1000000000) (h2 : r.2.length ≤ 1000000000) :
    Calls Try.prog 75 #[.agg #[.string (B r.1), .string (B r.2)]] w fun e w' => e = .returned (.bool (decide (24 < r.1.length))) ∧ Gr w w' := by
  go_enter Try.func75, Try.ntmps75
  go_wp2
  go_ret
  refine ⟨ret_bool ?_, (Kp.refl _ _).alloc _⟩
  rw [Bool.eq_iff_iff]; simp; try omega
set_option maxHeartbeats 1000000 in
set_option maxRecDepth 20000 in
theorem fits_any (l : List Rule) (A : Option Addr) (c : Nat) (w : World) (hn : l.length ≤ 1000000000) (hd : Dec l) (hL : ∀ r ∈ l, r.1.length ≤ 1000000000 ∧ r.2.length ≤ 1000000000) (hl : RAt w A l) :
    Calls Try.prog 61 #[.slice A l.length c] w fun e w' => e = .returned (.bool (fits l)) ∧ Gr w w' := by
  have Hl := Lib.hid hl
  have HL := Lib.hid hL
  have Hd := Lib.hid hd
  clear hl hL hd
  by_cases h : l.length ≤ 64
  · go_enter Try.func61, Try.ntmps61
    go_wp2_with fail
    refine (containsFunc_any l A c 75 #[] (fun r => decide (24 < r.1.length)) w hn Hl.out (enters' Try.func75 (by kernel_rfl) rfl) (fun w' r hg hr => by rw [Array.append_empty]; exact fits1_any r w' (HL.out r hr).1 (HL.out r hr).2)).mono ?_
    rintro e w1 ⟨rfl, hg1⟩
    have Hg1 := Lib.hid hg1
    clear hg1
    go_wp2
    go_ret
    refine ⟨ret_bool ?_, Hg1.out⟩
    rw [List.any_eq_not_all_not, Bool.not_not]
    unfold fits
    simp only [h, decide_true, Bool.true_and]
    rw [Bool.eq_iff_iff, List.all_eq_true, List.all_eq_true]
    constructor
    · intro h1 r hr
      have := h1 r hr
      have := Hd.out r hr
      simp at *
      omega
    · intro h1 r hr
      have := h1 r hr
      simp at *
      omega
  · go_enter Try.func61, Try.ntmps61
    go_wp2
    go_ret
    exact ⟨ret_bool (by simp [fits, h]), Kp.refl _ _⟩
end Go.Proofs.Ytffghamcggadcaa
