/- Contracts of the reference: one step, the normal form. -/
import Derived.Test.YtffghamcggadcaaGreatR1
namespace Go.Proofs.YtffghamcggadcaaGreat
open Go.RowKit
set_option linter.unusedVariables false
set_option linter.unusedSimpArgs false
attribute [local go_sem] B_size B_toList B_append B_extract B_get take_rest
/-- the list without its k-th element; nothing is left out where there is no such -/
def skipL {α : Type} : List α → Int → List α
  | [], _ => []
  | x :: l, k => if k = 0 then l else x :: skipL l (k - 1)
theorem skipL_neg {α : Type} : ∀ (l : List α) (k : Int), k < 0 → skipL l k = l
  | [], _, _ => rfl
  | x :: l, k, h => by unfold skipL; rw [if_neg (by omega), skipL_neg l (k - 1) (by omega)]
theorem skipL_nat {α : Type} : ∀ (l : List α) (k : Nat), skipL l k = l.eraseIdx k
  | [], k => by simp [skipL]
  | x :: l, 0 => by simp [skipL]
  | x :: l, k + 1 => by
    unfold skipL
    rw [if_neg (by omega), show ((k + 1 : Nat) : Int) - 1 = (k : Int) from by omega, skipL_nat l k]
    rfl
theorem skipL_find {α : Type} (p : α → Bool) : ∀ (l : List α) (k : Int) (j : Nat) (hj : j < l.length), (j : Int) ≠ k → p l[j] = true → (∀ i (hi : i < j), (i : Int) ≠ k → p l[i] = false) → (skipL l k).find? p = some l[j]
  | [], _, _, hj, _, _, _ => absurd hj (by simp)
  | x :: l, k, 0, _, hk, hp, _ => by
    unfold skipL
    rw [if_neg (by omega)]
    simp at hp
    simp [hp]
  | x :: l, k, j + 1, hj, hk, hp, h => by
    have hj' : j < l.length := by simpa using hj
    have ih := fun (hk1 : (j : Int) ≠ k - 1) => skipL_find p l (k - 1) j hj' hk1 (by simpa using hp) (fun i hi hne => by simpa using h (i + 1) (by omega) (by omega))
    unfold skipL
    by_cases h0 : k = 0
    · rw [if_pos h0]
      have := skipL_find p l (k - 1) j hj' (by omega) (by simpa using hp) (fun i hi hne => by simpa using h (i + 1) (by omega) (by omega))
      rw [skipL_neg l (k - 1) (by omega)] at this
      simpa using this
    · rw [if_neg h0]
      have hx : p x = false := by simpa using h 0 (by omega) (by omega)
      rw [List.find?_cons_of_neg (by simp [hx])]
      simpa using ih (by omega)
theorem skipL_none {α : Type} (p : α → Bool) : ∀ (l : List α) (k : Int), (∀ i (hi : i < l.length), (i : Int) ≠ k → p l[i] = false) → (skipL l k).find? p = none
  | [], _, _ => rfl
  | x :: l, k, h => by
    have ih := skipL_none p l (k - 1) (fun i hi hne => h (i + 1) (by simpa using hi) (by omega))
    unfold skipL
    by_cases h0 : k = 0
    · rw [if_pos h0]
      rw [skipL_neg l (k - 1) (by omega)] at ih
      exact ih
    · have hx : p x = false := h 0 (by simp) (by omega)
      rw [if_neg h0, List.find?_cons_of_neg (by simp [hx])]
      exact ih
theorem skipL_sub {α : Type} : ∀ (l : List α) (k : Int) {x : α}, x ∈ skipL l k → x ∈ l
  | [], _, _, h => h
  | y :: l, k, x, h => by
    unfold skipL at h
    split at h
    · exact List.mem_cons_of_mem _ h
    · rcases List.mem_cons.1 h with rfl | h'
      · exact List.mem_cons_self
      · exact List.mem_cons_of_mem _ (skipL_sub l (k - 1) h')
theorem FirstFrom.step' {l : List Rule} {s : Str} {k : Nat} (hk : k < s.length) (hf : FirstFrom l s k) (h : (l.find? fun r => pre r.1 (s.drop k)) = none) : FirstFrom l s (k + 1) := by
  unfold FirstFrom at *
  rw [hf, first_drop l s k hk, h, Option.map_map]
  congr 1
  funext p
  simp [Nat.add_comm, Nat.add_left_comm]
theorem FirstFrom.hit' {l : List Rule} {s : Str} {k : Nat} {r : Rule} (hk : k < s.length) (hf : FirstFrom l s k) (h : (l.find? fun r => pre r.1 (s.drop k)) = some r) : first l s = some (k, r) := by
  unfold FirstFrom at hf
  rw [hf, first_drop l s k hk, h]
  simp
def stepV (l : List Rule) (s : Str) : Value := match step l s with
  | none => .tuple #[.string (B s), .bool false]
  | some t => .tuple #[.string (B t), .bool true]
set_option maxHeartbeats 1000000 in
set_option maxRecDepth 20000 in
theorem refStep_any (l : List Rule) (sk : Int) (s : Str) (A : Option Addr) (c : Nat) (w : World) (hs : s.length ≤ 1000000000) (hn : l.length ≤ 1000000000) (hsk : -1 ≤ sk ∧ sk ≤ 1000000000) (hL : ∀ r ∈ l, r.1.length ≤ 1000000000 ∧ r.2.length ≤ 1000000000) (hl : RAt w A l) :
    Calls Tryz.prog 68 #[.slice A l.length c, .int .i64 sk, .string (B s)] w fun e w' => e = .returned (stepV (skipL l sk) s) ∧ Gr w w' := by
  have Hl := Lib.hid hl
  have HL := Lib.hid hL
  clear hl hL
  go_enter Tryz.func68, Tryz.ntmps68
  go_wp2
  go_loopw [8] (fun i wr => ∃ k : Nat, k ≤ s.length ∧ i = .int .i64 k ∧ Hid (FirstFrom (skipL l sk) s k) ∧ Hid (Gr w wr)) (fun i _ => s.length - (intOf i).toNat)
  case atStart => exact ⟨0, by omega, rfl, FirstFrom.zero _ _, Kp.refl _ _⟩
  case round =>
    obtain ⟨k, hk, rfl, hf, hg⟩ := hrel
    by_cases hlt : k < s.length
    · go_wp2
      obtain ⟨wo, rfl⟩ : ∃ wo : World, wo = wr := ⟨_, rfl⟩
      go_loopw [9] (fun i wr => ∃ j : Nat, j ≤ l.length ∧ i = .int .i64 j ∧ Hid (∀ i (hi : i < l.length), i < j → (i : Int) ≠ sk → pre l[i].1 (s.drop k) = false) ∧ Hid (Gr w wr)) (fun i _ => l.length - (intOf i).toNat)
      case atStart => exact ⟨0, by omega, rfl, fun i _ h => absurd h (by omega), hg⟩
      case round =>
        clear hg
        obtain ⟨j, hj, rfl, hm, hg⟩ := hrel
        by_cases hlt2 : j < l.length
        · by_cases hjs : (j : Int) = sk
          · have hjs' : ((j : Int) != sk) = false := by simpa using hjs
            have Hjs := Lib.hid hjs
            clear hjs
            go_wp2
            refine ⟨⟨j + 1, by omega, by go_num, Lib.hid (fun i h1 h2 h3 => ?_), hg⟩, by simp [intOf]; omega⟩
            by_cases e : i = j
            · subst e; exact absurd Hjs.out h3
            · exact hm.out i h1 (by omega) h3
          · have hjs' : ((j : Int) != sk) = true := by simpa using hjs
            have Hjs := Lib.hid hjs
            clear hjs
            obtain ⟨ad, rfl, h0, h1⟩ := (RAt.get (Hl.out.gr hg.out) hlt2)
            obtain ⟨hl1, hl2⟩ := HL.out l[j] (List.getElem_mem hlt2)
            go_wp2_with fail
            refine (at_any s l[j].1 k _ hs (by omega) hl1).mono ?_
            rintro e w1 ⟨rfl, rfl⟩
            rcases hp : pre l[j].1 (s.drop k) with _ | _
            · have Hp := Lib.hid hp
              clear hp
              go_wp2
              refine ⟨⟨j + 1, by omega, by go_num, Lib.hid (fun i h1 h2 h3 => ?_), hg⟩, by simp [intOf]; omega⟩
              by_cases e : i = j
              · subst e; exact Hp.out
              · exact hm.out i h1 (by omega) h3
            · have Hp := Lib.hid hp
              have hkl : k + l[j].1.length ≤ s.length := by
                have := (List.isPrefixOf_iff_prefix.1 hp).length_le
                simp at this
                omega
              clear hp
              go_wp2
              go_quiet (fail)
              go_wp2
              go_ret2
              refine ⟨?_, hg.out.drewN _⟩
              unfold stepV step
              rw [hf.out.hit' hlt (skipL_find _ l sk j hlt2 Hjs.out Hp.out (fun i hi h3 => hm.out i (by omega) hi h3))]
              simp [replaced]
        · go_wp2
          refine ⟨⟨k + 1, by omega, by go_num, Lib.hid (hf.out.step' hlt (skipL_none _ l sk (fun i hi h3 => hm.out i hi (by omega) h3))), hg⟩, by simp [intOf]; omega⟩
    · go_wp2
      obtain rfl : k = s.length := by omega
      go_ret2
      refine ⟨?_, hg.out⟩
      unfold stepV step
      rw [hf.out.miss]
      rfl
set_option maxHeartbeats 1000000 in
set_option maxRecDepth 20000 in
theorem refNormal_any (l : List Rule) (sk : Int) (s : Str) (A : Option Addr) (c : Nat) (w : World) (hs : s.length ≤ 1000000000) (hn : l.length ≤ 1000000000) (hsk : -1 ≤ sk ∧ sk ≤ 1000000000) (hd : Dec l) (hL : ∀ r ∈ l, r.1.length ≤ 1000000000 ∧ r.2.length ≤ 1000000000) (hl : RAt w A l) :
    Calls Tryz.prog 46 #[.slice A l.length c, .int .i64 sk, .string (B s)] w fun e w' => e = .returned (normV (normal (skipL l sk) s)) ∧ Gr w w' := by
  have hd2 : Dec (skipL l sk) := fun r hr => hd r (skipL_sub l sk hr)
  have Hl := Lib.hid hl
  have HL := Lib.hid hL
  have Hd := Lib.hid hd2
  clear hl hd hL hd2
  go_enter Tryz.func46, Tryz.ntmps46
  go_wp2
  go_loopw [2, 9] (fun v i wr => ∃ (t : Str) (n : Nat), n ≤ 20000 ∧ t.length ≤ 1000000000 ∧ v = .string (B t) ∧ i = .int .i64 n ∧ Hid (NormFrom (skipL l sk) s t n) ∧ Hid (Gr w wr)) (fun _ i _ => 20001 - (intOf i).toNat)
  case atStart => exact ⟨s, 0, by omega, hs, rfl, rfl, rfl, Kp.refl _ _⟩
  case round =>
    obtain ⟨t, n, hn2, ht, rfl, rfl, hf, hg⟩ := hrel
    rcases hfst : first (skipL l sk) t with _ | ⟨i, r⟩
    · have Hf := Lib.hid hfst
      have Hst := Lib.hid (show stepV (skipL l sk) t = .tuple #[.string (B t), .bool false] from by unfold stepV step; rw [hfst]; rfl)
      clear hfst
      go_wp2_with fail
      refine (refStep_any l sk t A c _ (by assumption) (by assumption) hsk HL.out (Hl.out.gr hg.out)).mono ?_
      rintro e w1 ⟨rfl, hg1⟩
      rw [Hst.out]
      have Hg1 := Lib.hid hg1
      clear hg1
      go_wp2
      go_ret3
      refine ⟨?_, hg.out.trans Hg1.out⟩
      rw [hf.out, normalN_none Hf.out]
      rfl
    · have hsp := first_spec hfst
      have hrl := replaced_le hsp.2.1 (Hd.out r hsp.1)
      have hst : stepV (skipL l sk) t = .tuple #[.string (B (replaced t i r)), .bool true] := by unfold stepV step; rw [hfst]; rfl
      have Hst := Lib.hid hst
      have Hf := Lib.hid hfst
      clear hfst hsp hst
      by_cases hm : n = 20000
      · subst hm
        go_wp2_with fail
        refine (refStep_any l sk t A c _ (by assumption) (by assumption) hsk HL.out (Hl.out.gr hg.out)).mono ?_
        rintro e w1 ⟨rfl, hg1⟩
        rw [Hst.out]
        have Hg1 := Lib.hid hg1
        clear hg1
        go_wp2
        go_ret3
        refine ⟨?_, hg.out.trans Hg1.out⟩
        rw [hf.out, normalN_stop Hf.out]
        rfl
      · have hm2 : ((n : Int) == 20000) = false := by rw [beq_eq_false_iff_ne]; omega
        go_wp2_with fail
        refine (refStep_any l sk t A c _ (by assumption) (by assumption) hsk HL.out (Hl.out.gr hg.out)).mono ?_
        rintro e w1 ⟨rfl, hg1⟩
        rw [Hst.out]
        have Hg1 := Lib.hid hg1
        clear hg1
        go_wp2
        refine ⟨⟨replaced t i r, n + 1, by omega, by omega, rfl, by go_num, Lib.hid ?_, Lib.hid (hg.out.trans Hg1.out)⟩, by simp [intOf]; omega⟩
        have h := hf.out
        unfold NormFrom at h
        rw [show 20000 - n = (20000 - (n + 1)) + 1 from by omega, normalN_go Hf.out] at h
        exact h
set_option maxHeartbeats 1000000 in
theorem RefNormal_any (l : List Rule) (s : Str) (A : Option Addr) (c : Nat) (w : World) (hs : s.length ≤ 1000000000) (hn : l.length ≤ 1000000000) (hd : Dec l) (hL : ∀ r ∈ l, r.1.length ≤ 1000000000 ∧ r.2.length ≤ 1000000000) (hl : RAt w A l) :
    Calls Tryz.prog 21 #[.slice A l.length c, .string (B s)] w fun e w' => e = .returned (normV (normal l s)) ∧ Gr w w' := by
  have Hl := Lib.hid hl
  have HL := Lib.hid hL
  have Hd := Lib.hid hd
  clear hl hd hL
  go_enter Tryz.func21, Tryz.ntmps21
  go_wp2_with fail
  refine (refNormal_any l (-1) s A c _ hs hn (by omega) Hd.out HL.out Hl.out).mono ?_
  rintro e w1 ⟨rfl, hg1⟩
  rw [skipL_neg l (-1) (by omega)]
  have Hg1 := Lib.hid hg1
  clear hg1
  rcases hnm : normal l s with _ | ⟨t, n⟩
  all_goals
    have Hnm := Lib.hid hnm
    clear hnm
    simp only [normV]
    go_wp2
    go_ret3
    exact ⟨by rw [Hnm.out]; rfl, Hg1.out⟩
end Go.Proofs.YtffghamcggadcaaGreat
