/- The walk of the statement WordsTidies. -/
import Derived.Test.YtffghamcggadcaaGreatL2
import Derived.Test.YtffghamcggadcaaGreatR6
namespace Go.Proofs.YtffghamcggadcaaGreat
open Go.RowKit Go.Maps
set_option linter.unusedVariables false
set_option linter.unusedSimpArgs false
attribute [local go_sem] B_size B_toList B_append B_extract B_get take_rest
theorem Gr.glob {w w' : World} (h : Glob w) (hg : Gr w w') : Glob w' := h.kp hg (fun h => h)
theorem cutRules_Lens (l : List Rule) (most : Nat) : Lens (cutRules l most) := fun r hr => by have := cutRules_lens l most r hr; omega
theorem beq_same (l : List Rule) : (l == l) = true := by simp
set_option maxHeartbeats 4000000 in
set_option maxRecDepth 20000 in
theorem WordsTidies_any (l : List Rule) (A : Option Addr) (c : Nat) (w : World) (hn : l.length ≤ 9223372036854775807) (hL : ∀ r ∈ l, r.1.length ≤ 9223372036854775807 ∧ r.2.length ≤ 9223372036854775807) (hl : RAt w A l) (hz : 0 < w.heap.size) (hg : Glob w) :
    Calls Tryz.prog 3 #[.slice A l.length c] w fun e w' => e = .returned (.bool true) ∧ Gr w w' := by
  have Hl := Lib.hid hl
  have HL := Lib.hid hL
  have Hg := Lib.hid hg
  clear hl hL hg
  go_enter Tryz.func3, Tryz.ntmps3
  go_wp2_with fail
  refine (rules_any l 16 A c w (by omega) hn HL.out Hl.out).mono ?_
  rintro e w1 ⟨v1, rfl, hown1, hg1⟩
  have Hg1 := Lib.hid hg1
  obtain ⟨A1, c1, rfl, hlc1, hcm1⟩ := Own.slice hown1
  have Hat1 := Lib.hid (Own.at_ encR_ok hown1)
  clear hown1 hg1 hlc1 hcm1
  go_wp2_with fail
  refine (rules_any l 16 A c w1 (by omega) hn HL.out (Hl.out.gr Hg1.out)).mono ?_
  rintro e w2 ⟨v2, rfl, hown2, hg2⟩
  have Hg2 := Lib.hid (Hg1.out.trans hg2)
  obtain ⟨A2, c2, rfl, hlc2, hcm2⟩ := Own.slice hown2
  have Hat2 := Lib.hid (Own.at_ encR_ok hown2)
  have Hat1' := Lib.hid (Hat1.out.gr hg2)
  clear hown2 hg2 hlc2 hcm2
  have hlen := cutRules_len l 16 (by omega)
  have HLm := Lib.hid (cutRules_Lens l 16)
  generalize cutRules l 16 = m at *
  go_wp2_with fail
  refine (Tidy_any m A2 c2 w2 (by omega) HLm.out Hat2.out (by have := Hg2.out.size; omega) (Gr.glob Hg.out Hg2.out)).mono ?_
  rintro e w3 ⟨ht, hg3⟩
  have Hg3 := Lib.hid (Hg2.out.trans hg3)
  have Hat13 := Lib.hid (Hat1'.out.gr hg3)
  have Hat23 := Lib.hid (Hat2.out.gr hg3)
  clear hg3
  rcases hs : isSystem m with _ | _
  · unfold TidyV at ht
    rw [if_neg (by simp [hs])] at ht
    subst ht
    have Hs := Lib.hid hs
    clear hs
    go_wp2_with fail
    refine (same_any m m A2 A1 c2 c1 _ (by omega) (by omega) Hat23.out Hat13.out).mono ?_
    rintro e w4 ⟨rfl, hg4⟩
    rw [beq_same]
    have Hg4 := Lib.hid (Hg3.out.trans hg4)
    have Hat14 := Lib.hid (Hat13.out.gr hg4)
    clear hg4
    go_wp2_with fail
    refine (System_any m A1 c1 _ (by omega) HLm.out Hat14.out).mono ?_
    rintro e w5 ⟨rfl, hg5⟩
    rw [Hs.out]
    have Hg5 := Lib.hid (Hg4.out.trans hg5)
    clear hg5
    go_wp2_with fail
    refine (awake_any _ (by have := Hg5.out.size; omega) (Gr.glob Hg.out Hg5.out)).mono ?_
    rintro e w6 ⟨rfl, hg6⟩
    have Hg6 := Lib.hid (Hg5.out.trans hg6)
    clear hg6
    go_wp2
    go_ret
    exact ⟨rfl, Hg6.out⟩
  · unfold TidyV at ht
    rw [if_pos hs] at ht
    have Htame := Lib.hid (isSystem_tame hs)
    have Hs := Lib.hid hs
    clear hs
    rcases htd : tidy m with _ | x
    · rw [htd] at ht
      simp only [errV] at ht
      subst ht
      have Htd := Lib.hid htd
      clear htd
      go_wp2_with fail
      refine (same_any m m A2 A1 c2 c1 _ (by omega) (by omega) Hat23.out Hat13.out).mono ?_
      rintro e w4 ⟨rfl, hg4⟩
      rw [beq_same]
      have Hg4 := Lib.hid (Hg3.out.trans hg4)
      have Hat14 := Lib.hid (Hat13.out.gr hg4)
      clear hg4
      go_wp2_with fail
      refine (System_any m A1 c1 _ (by omega) HLm.out Hat14.out).mono ?_
      rintro e w5 ⟨rfl, hg5⟩
      rw [Hs.out]
      have Hg5 := Lib.hid (Hg4.out.trans hg5)
      have Hat15 := Lib.hid (Hat14.out.gr hg5)
      clear hg5
      go_wp2_with fail
      refine (refTidy_any m A1 c1 24 _ (by omega) (by omega) Htame.out Hat15.out).mono ?_
      rintro e w6 ⟨ht6, hg6⟩
      rw [Htd.out] at ht6
      simp only [refTidyV] at ht6
      subst ht6
      have Hg6 := Lib.hid (Hg5.out.trans hg6)
      clear hg6
      go_wp2_with fail
      refine (awake_any _ (by have := Hg6.out.size; omega) (Gr.glob Hg.out Hg6.out)).mono ?_
      rintro e w7 ⟨rfl, hg7⟩
      have Hg7 := Lib.hid (Hg6.out.trans hg7)
      clear hg7
      go_wp2
      go_ret
      exact ⟨rfl, Hg7.out⟩
    · rw [htd] at ht
      simp only [errV] at ht
      obtain ⟨v3, rfl, hown3⟩ := ht
      have hxl : x.length ≤ 1000 := by have := (tidy_keep Htame.out htd).2.2.1; omega
      have Htd := Lib.hid htd
      obtain ⟨A3, c3, rfl, hlc3, hcm3⟩ := Own.slice hown3
      have Hat3 := Lib.hid (Own.at_ encR_ok hown3)
      clear htd hown3 hlc3 hcm3
      go_wp2_with fail
      refine (same_any m m A2 A1 c2 c1 _ (by omega) (by omega) Hat23.out Hat13.out).mono ?_
      rintro e w4 ⟨rfl, hg4⟩
      rw [beq_same]
      have Hg4 := Lib.hid (Hg3.out.trans hg4)
      have Hat14 := Lib.hid (Hat13.out.gr hg4)
      have Hat34 := Lib.hid (Hat3.out.gr hg4)
      clear hg4
      go_wp2_with fail
      refine (System_any m A1 c1 _ (by omega) HLm.out Hat14.out).mono ?_
      rintro e w5 ⟨rfl, hg5⟩
      rw [Hs.out]
      have Hg5 := Lib.hid (Hg4.out.trans hg5)
      have Hat15 := Lib.hid (Hat14.out.gr hg5)
      have Hat35 := Lib.hid (Hat34.out.gr hg5)
      clear hg5
      go_wp2_with fail
      refine (refTidy_any m A1 c1 24 _ (by omega) (by omega) Htame.out Hat15.out).mono ?_
      rintro e w6 ⟨ht6, hg6⟩
      rw [Htd.out] at ht6
      simp only [refTidyV] at ht6
      obtain ⟨A6, c6, rfl, hlc6, hcm6, hA6, hat6⟩ := ht6
      have Hat6 := Lib.hid hat6
      have Hg6 := Lib.hid (Hg5.out.trans hg6)
      have Hat36 := Lib.hid (Hat35.out.gr hg6)
      clear hg6 hlc6 hcm6 hA6 hat6
      go_wp2_with fail
      refine (same_any x x A3 A6 c3 c6 _ (by omega) (by omega) Hat36.out Hat6.out).mono ?_
      rintro e w7 ⟨rfl, hg7⟩
      rw [beq_same]
      have Hg7 := Lib.hid (Hg6.out.trans hg7)
      clear hg7
      go_wp2_with fail
      refine (awake_any _ (by have := Hg7.out.size; omega) (Gr.glob Hg.out Hg7.out)).mono ?_
      rintro e w8 ⟨rfl, hg8⟩
      have Hg8 := Lib.hid (Hg7.out.trans hg8)
      clear hg8
      go_wp2
      go_ret
      exact ⟨rfl, Hg8.out⟩
end Go.Proofs.YtffghamcggadcaaGreat
