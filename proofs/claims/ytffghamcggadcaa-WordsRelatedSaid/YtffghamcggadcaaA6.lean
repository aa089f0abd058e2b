/- Contract: Size. -/
import Derived.Test.YtffghamcggadcaaA5
namespace Go.Proofs.Ytffghamcggadcaa
open Go.RowKit Go.Maps
set_option linter.unusedVariables false
set_option linter.unusedSimpArgs false
attribute [local go_sem] B_size B_toList B_append B_extract B_get take_rest
def SizeV (l : List Rule) (k : Int) : Value := if isCounted l k = true then (match sizeS l k.toNat with
    | none => .tuple #[.int .i64 0, .int .i64 6]
    | some s => .tuple #[.int .i64 s, .int .i64 0]) else .tuple #[.int .i64 0, .int .i64 2]
section
variable {tab : List (List Int)} {now next : List Int} {s : Int}
theorem sizeN_stop (h : totalN now 0 = none) (n : Nat) (all : Int) : sizeN tab n now all = none := by cases n <;> (unfold sizeN; rw [h])
theorem sizeN_last (h : totalN now 0 = some s) (all : Int) : sizeN tab 0 now all = if 0 < s then none else some all := by unfold sizeN; rw [h]
theorem sizeN_over (h : totalN now 0 = some s) {all : Int} (h2 : 4611686018427387904 - all < s) (n : Nat) : sizeN tab (n + 1) now all = none := by unfold sizeN; rw [h]; simp only [h2, if_true]
theorem sizeN_end (h : totalN now 0 = some 0) {all : Int} (h2 : ¬ 4611686018427387904 - all < 0) (n : Nat) : sizeN tab (n + 1) now all = some all := by unfold sizeN; rw [h]; simp only [h2, if_false, if_true]
theorem sizeN_none (h : totalN now 0 = some s) {all : Int} (h2 : ¬ 4611686018427387904 - all < s) (h3 : s ≠ 0) (h4 : spread tab now = none) (n : Nat) : sizeN tab (n + 1) now all = none := by unfold sizeN; rw [h]; simp only [h2, h3, h4, if_false]
theorem sizeN_go (h : totalN now 0 = some s) {all : Int} (h2 : ¬ 4611686018427387904 - all < s) (h3 : s ≠ 0) (h4 : spread tab now = some next) (n : Nat) : sizeN tab (n + 1) now all = sizeN tab n next (all + s) := by conv => lhs; unfold sizeN; rw [h]; simp only [h2, h3, h4, if_false]
end
theorem totalN_nonneg : ∀ {l : List Int} {s t : Int}, Cap l → 0 ≤ s → totalN l s = some t → 0 ≤ t
  | [], s, t, _, hs, h => by simp [totalN] at h; omega
  | n :: l, s, t, hc, hs, h => by
    unfold totalN at h
    split at h
    · cases h
    · exact totalN_nonneg (fun x hx => hc x (List.mem_cons_of_mem _ hx)) (by have := (hc n List.mem_cons_self).1; omega) h
theorem totalN_le : ∀ {l : List Int} {s t : Int}, s ≤ 4611686018427387904 → totalN l s = some t → t ≤ 4611686018427387904
  | [], s, t, hs, h => by simp [totalN] at h; omega
  | n :: l, s, t, hs, h => by
    unfold totalN at h
    split at h
    · cases h
    · exact totalN_le (by omega) h
set_option maxHeartbeats 4000000 in
set_option maxRecDepth 20000 in
theorem Size_any (l : List Rule) (k : Int) (A : Option Addr) (c : Nat) (w : World) (hn : l.length ≤ 1000000000) (hk : -9223372036854775808 ≤ k ∧ k ≤ 9223372036854775807) (hL : ∀ r ∈ l, r.1.length ≤ 1000000000 ∧ r.2.length ≤ 1000000000) (hl : RAt w A l) :
    Calls Try.prog 9 #[.slice A l.length c, .int .i64 k] w fun e w' => e = .returned (SizeV l k) ∧ Gr w w' := by
  have Hl := Lib.hid hl
  have HL := Lib.hid hL
  clear hl hL
  rcases hs : isCounted l k with _ | _
  · have Hs := Lib.hid hs
    clear hs
    go_enter Try.func9, Try.ntmps9
    go_wp2
    go_step3
    go_wp2_with fail
    refine (isCounted_any l k A c w hn HL.out Hl.out).mono ?_
    rintro e w1 ⟨rfl, hg1⟩
    have Hg1 := Lib.hid hg1
    clear hg1
    rw [Hs.out]
    go_wp2
    try rw [Exit.noGoto_ret]
    go_ret2
    refine ⟨?_, Hg1.out⟩
    unfold SizeV
    rw [if_neg (by simp [Hs.out])]
    rfl
  · have Hs := Lib.hid hs
    clear hs
    obtain ⟨h64, hr, hk1, hk8⟩ := isCounted_spec Hs.out
    have Hr := Lib.hid hr
    clear hr
    obtain ⟨kn, rfl⟩ : ∃ kn : Nat, k = kn := ⟨k.toNat, by omega⟩
    go_enter Try.func9, Try.ntmps9
    go_wp2
    go_step3
    go_wp2_with fail
    refine (isCounted_any l kn A c w hn HL.out Hl.out).mono ?_
    rintro e w1 ⟨rfl, hg1⟩
    have Hg1 := Lib.hid hg1
    clear hg1
    rw [Hs.out]
    go_wp2_with fail
    refine (newAutomaton_any l kn A c _ h64 (by omega) (by omega) (fun r hr => (Hr.out r hr).1) (Hl.out.gr Hg1.out)).mono ?_
    rintro e w2 ⟨a, rfl, htab, hg2⟩
    have hok := Lib.hid (tableN_ok l kn h64 (fun r hr => (Hr.out r hr).1) (by omega))
    have hsv := Lib.hid (show SizeV l kn = (match sizeN (tableN l (states l) kn) (tableN l (states l) kn).length (startN (tableN l (states l) kn).length) 0 with
      | none => .tuple #[.int .i64 0, .int .i64 6]
      | some s => .tuple #[.int .i64 s, .int .i64 0]) from by
        unfold SizeV
        rw [if_pos Hs.out]
        simp [sizeS, tableN])
    have hpos : 0 < (tableN l (states l) kn).length := by obtain ⟨t, ht⟩ := states_zero l; simp [tableN, ht]
    generalize tableN l (states l) kn = tab at htab hok hsv hpos
    have hlen := hok.out.1
    obtain ⟨NA, NC, hx0⟩ := htab.len
    have Htab := Lib.hid htab
    have Hg2 := Lib.hid (Hg1.out.trans hg2)
    clear htab hg2
    go_wp2_with (refine wpl_make rfl _ _ rfl tab.length rfl rfl (by omega) ?_; intro w3 hnb hg3 hos; have hnf := hnb.frozen 0; have hnc := hnb.cell 0; rw [cellsI_get _ _ (by simpa using hpos)] at hnc; have hx0' := Gr.cell hg3 hx0; replace hnb := Lib.hid hnb; replace hg3 := Lib.hid hg3)
    go_step3
    have hb4 := hnb.out.set_ 0 (.int .i64 1)
    rw [startN_cells] at hb4
    have hk4 : Gr w2 (w3.setCell ⟨w2.heap.size, 0, none⟩ (.int .i64 1)) := Gr.kp hg3.out (Kp.set1 _ _ _ _) (fun i h1 h2 => by omega)
    have hown9 := Lib.hid (Own.ofI (base := w2.heap.size) hb4 (Nat.le_refl _) (by rw [startN_len]; omega))
    rw [startN_len] at hown9
    have Hk4 := Lib.hid hk4
    have hx4 := Gr.cell hk4 hx0
    clear hb4 hk4 hnc hnf hx0 hx0'
    generalize w3.setCell ⟨w2.heap.size, 0, none⟩ (.int .i64 1) = w4 at *
    clear hos hnb hg3
    go_wp2
    clear hx4
    go_loopg [7, 8, 33] tab.length (fun gk v7 v8 v33 wr => ∃ (now : List Int) (all : Int) (i : Nat) (u7 : Value), u7 = v7 ∧ v8 = .int .i64 all ∧ v33 = .int .i64 i ∧ gk + i = tab.length ∧ 0 ≤ all ∧ all ≤ 4611686018427387904 ∧ Hid (now.length = tab.length) ∧ Hid (Cap now) ∧ Hid (sizeN tab tab.length (startN tab.length) 0 = sizeN tab gk now all) ∧ Hid (OwnI wr w2.heap.size v7 now) ∧ Hid (Gr w2 wr))
    case atStart => exact ⟨startN tab.length, 0, 0, _, rfl, rfl, rfl, by omega, by omega, by omega, Lib.hid (startN_len _), Lib.hid (Cap.start _), Lib.hid rfl, hown9, Hk4⟩
    case round =>
      clear hown9 Hk4
      obtain ⟨now, all, i, u7, hu7, rfl, rfl, hgi, ha0, ha1, hnl, hcap, hsz, hown, hg⟩ := hrel
      subst hu7
      obtain ⟨A7, c7, rfl, hl7, hc7⟩ := Own.slice hown.out
      have hat := Lib.hid (Own.at_ encI_ok hown.out)
      clear hl7 hc7
      by_cases hlt : i < tab.length
      · obtain ⟨g', rfl⟩ : ∃ g', gk = g' + 1 := ⟨gk - 1, by omega⟩
        go_wp2_with fail
        refine (total_any now A7 c7 _ (by have := hnl.out; omega) hcap.out hat.out).mono ?_
        rintro e w5 ⟨rfl, hg5⟩
        have Hg5 := Lib.hid hg5
        clear hg5
        rcases htn : totalN now 0 with _ | s
        · have Htn := Lib.hid htn
          clear htn
          simp only [totalV]
          have Hfin := Lib.hid (show SizeV l kn = .tuple #[.int .i64 0, .int .i64 6] from by rw [hsv.out, hsz.out, sizeN_stop Htn.out])
          go_wp2
          try rw [Exit.noGoto_ret]
          go_ret2
          refine ⟨?_, (Hg2.out.trans hg.out).trans Hg5.out⟩
          rw [Hfin.out]
          rfl
        · have hs0 := totalN_nonneg hcap.out (by omega) htn
          have hs1 := totalN_le (by omega) htn
          have Htn := Lib.hid htn
          clear htn
          simp only [totalV]
          by_cases hov : 4611686018427387904 - all < s
          · have Hfin := Lib.hid (show SizeV l kn = .tuple #[.int .i64 0, .int .i64 6] from by rw [hsv.out, hsz.out, sizeN_over Htn.out hov])
            go_wp2
            try rw [Exit.noGoto_ret]
            go_ret2
            refine ⟨?_, (Hg2.out.trans hg.out).trans Hg5.out⟩
            rw [Hfin.out]
            rfl
          · by_cases hsz0 : s = 0
            · subst hsz0
              have Hfin := Lib.hid (show SizeV l kn = .tuple #[.int .i64 all, .int .i64 0] from by rw [hsv.out, hsz.out, sizeN_end Htn.out hov])
              go_wp2_with fail
              refine (total_any now A7 c7 _ (by have := hnl.out; omega) hcap.out (hat.out.gr Hg5.out)).mono ?_
              rintro e w6 ⟨rfl, hg6⟩
              have Hg6 := Lib.hid hg6
              clear hg6
              rw [Htn.out]
              simp only [totalV]
              go_wp2
              try rw [Exit.noGoto_ret]
              go_ret2
              refine ⟨?_, ((Hg2.out.trans hg.out).trans Hg5.out).trans Hg6.out⟩
              rw [Hfin.out]
              rfl
            · have hsz0' : (s == 0) = false := by simpa using hsz0
              have Hsz0 := Lib.hid hsz0
              clear hsz0
              go_wp2_with fail
              refine (spread_any tab now a A7 c7 _ hok.out hnl.out hcap.out (Htab.out.gr (hg.out.trans Hg5.out)) (hat.out.gr Hg5.out)).mono ?_
              rintro e w7 ⟨hsp, hg7⟩
              have Hg67 := Lib.hid ((hg.out.trans Hg5.out).trans hg7)
              have Hb6 := Lib.hid (show w2.heap.size ≤ w5.heap.size from (hg.out.trans Hg5.out).size)
              clear hg7
              rcases hsr : spread tab now with _ | out
              · rw [hsr] at hsp
                simp only at hsp
                subst hsp
                have Hfin := Lib.hid (show SizeV l kn = .tuple #[.int .i64 0, .int .i64 6] from by rw [hsv.out, hsz.out, sizeN_none Htn.out (by omega) Hsz0.out hsr])
                clear hsr
                go_wp2
                try rw [Exit.noGoto_ret]
                go_ret2
                refine ⟨?_, Hg2.out.trans Hg67.out⟩
                rw [Hfin.out]
                rfl
              · rw [hsr] at hsp
                obtain ⟨A8, c8, rfl, hown8⟩ := hsp
                have Hown8 := Lib.hid (hown8.weak Hb6.out)
                have hol := Lib.hid (spread_cap hcap.out hsr).2
                have hoc := Lib.hid (spread_cap hcap.out hsr).1
                have Hst := Lib.hid (hsz.out.trans (sizeN_go Htn.out (by omega) Hsz0.out hsr g'))
                clear hsr hown8
                go_wp2
                go_roundg g'
                case measure => omega
                case rel => exact ⟨out, all + s, i + 1, _, rfl, rfl, by go_num, by omega, by omega, by omega, Lib.hid (hol.out.trans hnl.out), hoc, Hst, Hown8, Hg67⟩
      · obtain rfl : gk = 0 := by omega
        go_wp2_with fail
        refine (total_any now A7 c7 _ (by have := hnl.out; omega) hcap.out hat.out).mono ?_
        rintro e w5 ⟨rfl, hg5⟩
        have Hg5 := Lib.hid hg5
        clear hg5
        rcases htn : totalN now 0 with _ | s
        · have Hfin := Lib.hid (show SizeV l kn = .tuple #[.int .i64 0, .int .i64 6] from by rw [hsv.out, hsz.out, sizeN_stop htn])
          clear htn
          simp only [totalV]
          go_wp2
          try rw [Exit.noGoto_ret]
          go_ret2
          refine ⟨?_, (Hg2.out.trans hg.out).trans Hg5.out⟩
          rw [Hfin.out]
          rfl
        · by_cases hs0 : 0 < s
          · have Hfin := Lib.hid (show SizeV l kn = .tuple #[.int .i64 0, .int .i64 6] from by rw [hsv.out, hsz.out, sizeN_last htn, if_pos hs0])
            clear htn
            simp only [totalV]
            go_wp2
            try rw [Exit.noGoto_ret]
            go_ret2
            refine ⟨?_, (Hg2.out.trans hg.out).trans Hg5.out⟩
            rw [Hfin.out]
            rfl
          · have Hfin := Lib.hid (show SizeV l kn = .tuple #[.int .i64 all, .int .i64 0] from by rw [hsv.out, hsz.out, sizeN_last htn, if_neg hs0])
            clear htn
            simp only [totalV]
            go_wp2
            try rw [Exit.noGoto_ret]
            go_ret2
            refine ⟨?_, (Hg2.out.trans hg.out).trans Hg5.out⟩
            rw [Hfin.out]
            rfl
end Go.Proofs.Ytffghamcggadcaa
