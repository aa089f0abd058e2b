/- Contracts of the reference: systems, limits, a rule that is normal by the others. -/
import Derived.Test.YtffghamcggadcaaGreatR4
namespace Go.Proofs.YtffghamcggadcaaGreat
open Go.RowKit Go.Maps
set_option linter.unusedVariables false
set_option linter.unusedSimpArgs false
attribute [local go_sem] B_size B_toList B_append B_extract B_get take_rest
theorem all_of {p : Rule → Bool} {l : List Rule} (h : ∀ i (hi : i < l.length), p l[i] = true) : l.all p = true := by
  rw [List.all_eq_true]
  intro r hr
  obtain ⟨i, hi, rfl⟩ := List.getElem_of_mem hr
  exact h i hi
theorem not_all_of {p : Rule → Bool} {l : List Rule} {i : Nat} (hi : i < l.length) (h : p l[i] = false) : l.all p = false := by
  rw [List.all_eq_false]
  exact ⟨l[i], List.getElem_mem hi, by simp [h]⟩
def fit1 (r : Rule) : Bool := decide (r.1.length ≤ 24) && decide (r.2.length ≤ 24)
set_option maxHeartbeats 1000000 in
set_option maxRecDepth 20000 in
theorem refFits_any (l : List Rule) (A : Option Addr) (c : Nat) (w : World) (hn : l.length ≤ 1000000000) (hL : ∀ r ∈ l, r.1.length ≤ 1000000000 ∧ r.2.length ≤ 1000000000) (hl : RAt w A l) :
    Calls Tryz.prog 42 #[.slice A l.length c] w fun e w' => e = .returned (.bool (fits l)) ∧ Gr w w' := by
  have Hl := Lib.hid hl
  have HL := Lib.hid hL
  clear hl hL
  go_enter Tryz.func42, Tryz.ntmps42
  go_wp2
  go_loopw [3] (fun vk wr => ∃ k : Nat, k ≤ l.length ∧ vk = .int .i64 k ∧ Hid (∀ i (h : i < l.length), i < k → fit1 l[i] = true) ∧ Hid (Gr w wr)) (fun vk _ => l.length - (intOf vk).toNat)
  case atStart => exact ⟨0, by omega, rfl, Lib.hid (fun i _ h => absurd h (by omega)), Lib.hid (Kp.refl _ _)⟩
  case round =>
    obtain ⟨k, hk, rfl, hm, hg⟩ := hrel
    by_cases hlt : k < l.length
    · obtain ⟨ad, rfl, h0, h1⟩ := RAt.get (Hl.out.gr hg.out) hlt
      obtain ⟨hl1, hl2⟩ := HL.out l[k] (List.getElem_mem hlt)
      by_cases c1 : l[k].1.length ≤ 24
      · by_cases c2 : l[k].2.length ≤ 24
        · go_wp2
          refine ⟨⟨k + 1, by omega, by go_num, Lib.hid (fun i h1 h2 => ?_), hg⟩, by simp [intOf]; omega⟩
          by_cases e : i = k
          · subst e; simp [fit1, c1, c2]
          · exact hm.out i h1 (by omega)
        · go_wp2
          go_ret
          refine ⟨ret_bool ?_, hg.out⟩
          have := not_all_of (p := fit1) hlt (by simp [fit1, c2])
          unfold fits fit1 at *
          rw [this]; simp
      · go_wp2
        go_ret
        refine ⟨ret_bool ?_, hg.out⟩
        have := not_all_of (p := fit1) hlt (by simp [fit1, c1])
        unfold fits fit1 at *
        rw [this]; simp
    · go_wp2
      go_ret
      refine ⟨ret_bool ?_, hg.out⟩
      have := all_of (p := fit1) (fun i hi => hm.out i hi (by omega))
      unfold fits fit1 at *
      rw [this]
      rw [Bool.eq_iff_iff]; simp; try omega
set_option maxHeartbeats 1000000 in
set_option maxRecDepth 20000 in
theorem refIsNormal_any (l : List Rule) (k : Nat) (A : Option Addr) (c : Nat) (w : World) (hn : l.length ≤ 1000000) (hk : k < l.length) (hL : ∀ r ∈ l, r.1.length ≤ 1000000000 ∧ r.2.length ≤ 1000000000) (hl : RAt w A l) :
    Calls Tryz.prog 33 #[.slice A l.length c, .int .i64 k] w fun e w' => e = .returned (.bool (isNormal l k l[k])) ∧ Gr w w' := by
  obtain ⟨ad, rfl, h0, h1⟩ := RAt.get hl hk
  obtain ⟨hl1, hl2⟩ := hL l[k] (List.getElem_mem hk)
  have Hl := Lib.hid hl
  have HL := Lib.hid hL
  clear hl hL
  go_enter Tryz.func33, Tryz.ntmps33
  go_wp2_with fail
  refine (refStep_any l k l[k].1 (some ad) c _ hl1 (by omega) (by omega) HL.out Hl.out).mono ?_
  rintro e w1 ⟨rfl, hg1⟩
  have g0 := Gr.cell hg1 h0
  have g1 := Gr.cell hg1 h1
  have Hg1 := Lib.hid hg1
  clear hg1
  have hv1 : ∃ t, stepV (skipL l k) l[k].1 = .tuple #[.string (B t), .bool (step (l.eraseIdx k) l[k].1).isSome] := by
    rw [skipL_nat]
    unfold stepV
    cases step (l.eraseIdx k) l[k].1 <;> exact ⟨_, rfl⟩
  have hv2 : ∃ t, stepV (skipL l k) l[k].2 = .tuple #[.string (B t), .bool (step (l.eraseIdx k) l[k].2).isSome] := by
    rw [skipL_nat]
    unfold stepV
    cases step (l.eraseIdx k) l[k].2 <;> exact ⟨_, rfl⟩
  obtain ⟨t1, hv1⟩ := hv1
  obtain ⟨t2, hv2⟩ := hv2
  have hfin := Lib.hid (show isNormal l k l[k] = (!(step (l.eraseIdx k) l[k].1).isSome && !(step (l.eraseIdx k) l[k].2).isSome) from by
    unfold isNormal step
    simp only [Option.isSome_map, Option.not_isSome])
  rw [hv1]
  have Hv2 := Lib.hid hv2
  clear hv1 hv2
  generalize (step (l.eraseIdx k) l[k].1).isSome = b1 at *
  generalize (step (l.eraseIdx k) l[k].2).isSome = b2 at *
  go_wp2_with fail
  refine (refStep_any l k l[k].2 (some ad) c _ hl2 (by omega) (by omega) HL.out (Hl.out.gr Hg1.out)).mono ?_
  rintro e w2 ⟨rfl, hg2⟩
  have Hg2 := Lib.hid hg2
  clear hg2
  rw [Hv2.out]
  cases b1
  all_goals
    go_wp2
    go_ret
    refine ⟨ret_bool ?_, Hg1.out.trans Hg2.out⟩
    rw [hfin.out]
    simp
set_option maxHeartbeats 1000000 in
set_option maxRecDepth 20000 in
theorem System_any (l : List Rule) (A : Option Addr) (c : Nat) (w : World) (hn : l.length ≤ 1000000000) (hL : ∀ r ∈ l, r.1.length ≤ 1000000000 ∧ r.2.length ≤ 1000000000) (hl : RAt w A l) :
    Calls Tryz.prog 10 #[.slice A l.length c] w fun e w' => e = .returned (.bool (isSystem l)) ∧ Gr w w' := by
  have Hl := Lib.hid hl
  have HL := Lib.hid hL
  clear hl hL
  go_enter Tryz.func10, Tryz.ntmps10
  go_wp2
  go_loopw [3] (fun vk wr => ∃ k : Nat, k ≤ l.length ∧ vk = .int .i64 k ∧ Hid (∀ i (h : i < l.length), i < k → isRule l[i] = true) ∧ Hid (Gr w wr)) (fun vk _ => l.length - (intOf vk).toNat)
  case atStart => exact ⟨0, by omega, rfl, Lib.hid (fun i _ h => absurd h (by omega)), Lib.hid (Kp.refl _ _)⟩
  case round =>
    obtain ⟨k, hk, rfl, hm, hg⟩ := hrel
    by_cases hlt : k < l.length
    · obtain ⟨ad, rfl, h0, h1⟩ := RAt.get (Hl.out.gr hg.out) hlt
      obtain ⟨hl1, hl2⟩ := HL.out l[k] (List.getElem_mem hlt)
      have HF : ∀ w', Gr wr w' → w'.cell? (ad.add (k * 2)) = some (.string (B l[k].1)) ∧ w'.cell? ⟨(ad.add (k * 2)).block, (ad.add (k * 2)).off + 1, none⟩ = some (.string (B l[k].2)) :=
        fun w' hG => ⟨Gr.cell hG h0, Gr.cell hG h1⟩
      clear h0 h1
      replace HF := Lib.hid HF
      go_wp2
      refine wp_region_S (fun _ => False) [(0, true), (1, true), (2, true), (3, true), (4, true), (5, true), (6, true), (7, true), (8, true), (9, true), (10, true), (11, true), (12, true), (13, true), (14, true), (15, true), (16, true), (17, true), (18, true), (19, true)] (by kernel_rfl) (by kernel_rfl) ?_
      iterate 4 (
        refine rp_val (v := ?_) rfl (fun _ _ _ h => h) rfl (fun w' hG => ?_) ?_
        rotate_left
        · have hF := HF.out w' hG
          clear hG
          go_simp
          try with_reducible rfl
        simp only [Act.put, List.setIfInBounds_toArray, List.set_cons_zero, List.set_cons_succ])
      refine rp_call (v := .bool (isEq l[k])) (f := 28) (args := #[.agg #[.string (B l[k].1), .string (B l[k].2)]]) rfl (fun _ _ _ h => h) rfl (fun w' => ?_) (fun w' hG => ?_) ?_
      · go_simp
      · exact refEquation_any l[k].1 l[k].2 _ hl1 hl2
      simp only [Act.put, List.setIfInBounds_toArray, List.set_cons_zero, List.set_cons_succ]
      rcases he : isEq l[k] with _ | _
      · skip
        iterate 2 (
          refine rp_val (v := ?_) rfl (fun _ _ _ h => h) rfl (fun w' hG => ?_) ?_
          rotate_left
          · have hF := HF.out w' hG
            clear hG
            go_simp
            try with_reducible rfl
          simp only [Act.put, List.setIfInBounds_toArray, List.set_cons_zero, List.set_cons_succ])
        iterate 12 (
          refine rp_skip rfl (fun _ _ _ h => h) rfl ?_
          simp only [Act.put, List.setIfInBounds_toArray, List.set_cons_zero, List.set_cons_succ])
        iterate 1 (
          refine rp_val (v := ?_) rfl (fun _ _ _ h => h) rfl (fun w' hG => ?_) ?_
          rotate_left
          · have hF := HF.out w' hG
            clear hG
            go_simp
            try with_reducible rfl
          simp only [Act.put, List.setIfInBounds_toArray, List.set_cons_zero, List.set_cons_succ])
        have He := Lib.hid he
        clear he
        refine rp_done fun w4 hG4 => ?_
        have Hg4 := Lib.hid (hg.out.trans hG4)
        clear hG4 HF
        go_wp2
        go_ret
        refine ⟨ret_bool ?_, Hg4.out⟩
        unfold isSystem
        rw [not_all_of (p := isRule) hlt (by simp [isRule, He.out])]
        simp
      · skip
        iterate 12 (
          refine rp_val (v := ?_) rfl (fun _ _ _ h => h) rfl (fun w' hG => ?_) ?_
          rotate_left
          · have hF := HF.out w' hG
            clear hG
            go_simp
            try with_reducible rfl
          simp only [Act.put, List.setIfInBounds_toArray, List.set_cons_zero, List.set_cons_succ])
        refine rp_call (v := .bool (gt l[k].1 l[k].2)) (f := 29) (args := #[.string (B l[k].1), .string (B l[k].2)]) rfl (fun _ _ _ h => h) rfl (fun w' => ?_) (fun w' hG => ?_) ?_
        · go_simp
        · exact (greater_any l[k].1 l[k].2 _ hl1 hl2).mono fun e w'' h => ⟨h.1, by rw [h.2]; exact Kp.refl _ _⟩
        simp only [Act.put, List.setIfInBounds_toArray, List.set_cons_zero, List.set_cons_succ]
        have He := Lib.hid he
        clear he
        rcases hgt : gt l[k].1 l[k].2 with _ | _
        · skip
          iterate 2 (
            refine rp_val (v := ?_) rfl (fun _ _ _ h => h) rfl (fun w' hG => ?_) ?_
            rotate_left
            · have hF := HF.out w' hG
              clear hG
              go_simp
              try with_reducible rfl
            simp only [Act.put, List.setIfInBounds_toArray, List.set_cons_zero, List.set_cons_succ])
          have Hgt := Lib.hid hgt
          clear hgt
          refine rp_done fun w4 hG4 => ?_
          have Hg4 := Lib.hid (hg.out.trans hG4)
          clear hG4 HF
          go_wp2
          go_ret
          refine ⟨ret_bool ?_, Hg4.out⟩
          unfold isSystem
          rw [not_all_of (p := isRule) hlt (by simp [isRule, Hgt.out])]
          simp
        · skip
          iterate 2 (
            refine rp_val (v := ?_) rfl (fun _ _ _ h => h) rfl (fun w' hG => ?_) ?_
            rotate_left
            · have hF := HF.out w' hG
              clear hG
              go_simp
              try with_reducible rfl
            simp only [Act.put, List.setIfInBounds_toArray, List.set_cons_zero, List.set_cons_succ])
          have Hgt := Lib.hid hgt
          clear hgt
          refine rp_done fun w4 hG4 => ?_
          have Hg4 := Lib.hid (hg.out.trans hG4)
          clear hG4 HF
          go_wp2
          refine ⟨⟨k + 1, by omega, by go_num, Lib.hid (fun i h1 h2 => ?_), Hg4⟩, by simp [intOf]; omega⟩
          by_cases e : i = k
          · subst e; simp [isRule, He.out, Hgt.out]
          · exact hm.out i h1 (by omega)
    · go_wp2
      go_ret
      refine ⟨ret_bool ?_, hg.out⟩
      unfold isSystem
      rw [all_of (p := isRule) (fun i hi => hm.out i hi (by omega))]
      rw [Bool.eq_iff_iff]; simp; try omega
end Go.Proofs.YtffghamcggadcaaGreat
