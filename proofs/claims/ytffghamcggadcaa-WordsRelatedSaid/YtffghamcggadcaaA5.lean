/- Contracts: Count, Size. -/
import Derived.Test.YtffghamcggadcaaA4
import Derived.Test.YtffghamcggadcaaAu
import Derived.Test.YtffghamcggadcaaAc
namespace Go.Proofs.Ytffghamcggadcaa
open Go.RowKit Go.Maps
set_option linter.unusedVariables false
set_option linter.unusedSimpArgs false
attribute [local go_sem] B_size B_toList B_append B_extract B_get take_rest
def isCounted (l : List Rule) (k : Int) : Bool := isSystem l && decide (1 ≤ k) && decide (k ≤ 8)
set_option maxHeartbeats 1000000 in
theorem isCounted_any (l : List Rule) (k : Int) (A : Option Addr) (c : Nat) (w : World) (hn : l.length ≤ 1000000000) (hL : ∀ r ∈ l, r.1.length ≤ 1000000000 ∧ r.2.length ≤ 1000000000) (hl : RAt w A l) :
    Calls Try.prog 25 #[.slice A l.length c, .int .i64 k] w fun e w' => e = .returned (.bool (isCounted l k)) ∧ Gr w w' := by
  have Hl := Lib.hid hl
  have HL := Lib.hid hL
  clear hl hL
  rcases hs : isSystem l with _ | _
  · have Hs := Lib.hid hs
    clear hs
    go_enter Try.func25, Try.ntmps25
    go_wp2_with fail
    refine (isSystem_any l A c w hn HL.out Hl.out).mono ?_
    rintro e w1 ⟨rfl, hg1⟩
    have Hg1 := Lib.hid hg1
    clear hg1
    rw [Hs.out]
    go_wp2
    go_ret
    exact ⟨ret_bool (by simp [isCounted, Hs.out]), Hg1.out⟩
  · have Hs := Lib.hid hs
    clear hs
    obtain h0 | ⟨h0, h8⟩ | ⟨h0, h8⟩ : k < 1 ∨ (1 ≤ k ∧ k ≤ 8) ∨ (1 ≤ k ∧ 8 < k) := by omega
    all_goals
      go_enter Try.func25, Try.ntmps25
      go_wp2_with fail
      refine (isSystem_any l A c w hn HL.out Hl.out).mono ?_
      rintro e w1 ⟨rfl, hg1⟩
      have Hg1 := Lib.hid hg1
      clear hg1
      rw [Hs.out]
      go_wp2
      go_ret
      refine ⟨ret_bool ?_, Hg1.out⟩
      simp [isCounted, Hs.out]
      try omega
theorem Own.weak {α : Type} {enc : α → List Value} {sz : Nat} {e : TypeId} {w : World} {base base' : Nat} {v : Value} {l : List α} (h : Own enc sz e w base v l) (hb : base' ≤ base) : Own enc sz e w base' v l := by
  refine ⟨h.1, ?_⟩
  rcases h.2 with hn | ⟨g, cap, cur, rfl, hb', rest⟩
  · exact .inl hn
  · exact .inr ⟨g, cap, cur, rfl, by omega, rest⟩
theorem tableN_ok (l : List Rule) (k : Nat) (hn : l.length ≤ 64) (hL : ∀ r ∈ l, r.1.length ≤ 24) (hk : k ≤ 8) : TabOk (tableN l (states l) k) := by
  have h1 := states_len l hn hL
  refine ⟨by simp [tableN]; omega, fun row hrow => ?_⟩
  obtain ⟨s, _, rfl⟩ := List.mem_map.1 hrow
  refine ⟨by rw [rowN_len]; exact hk, fun t ht => ?_⟩
  obtain ⟨c, _, rfl⟩ := List.mem_map.1 ht
  unfold stepN
  have hp : 0 < (states l).length := by obtain ⟨t, ht⟩ := states_zero l; rw [ht]; simp
  have h3 : (tableN l (states l) k).length = (states l).length := by simp [tableN]
  rw [h3]
  split
  · omega
  · have := List.idxOf_lt_length_iff.2 (longest_mem (states_nil l) (s ++ [letter c]))
    omega
theorem isCounted_spec {l : List Rule} {k : Int} (h : isCounted l k = true) : l.length ≤ 64 ∧ (∀ r ∈ l, r.1.length ≤ 24 ∧ r.2.length ≤ 24 ∧ r.1 ≠ []) ∧ 1 ≤ k ∧ k ≤ 8 := by
  unfold isCounted at h
  simp only [Bool.and_eq_true, decide_eq_true_eq] at h
  obtain ⟨⟨h1, h2⟩, h3⟩ := h
  unfold isSystem at h1
  simp only [Bool.and_eq_true, decide_eq_true_eq, List.all_eq_true] at h1
  refine ⟨h1.1, fun r hr => ?_, h2, h3⟩
  have h4 := h1.2 r hr
  unfold isRule isEq isSide at h4
  simp only [Bool.and_eq_true, decide_eq_true_eq] at h4
  refine ⟨h4.1.1.1, h4.1.2.1, fun e => ?_⟩
  have h5 := h4.2
  rw [e] at h5
  unfold gt orderS orI cmpN at h5
  simp only [decide_eq_true_eq, List.length_nil, Nat.not_lt_zero, if_false] at h5
  by_cases h6 : 0 < r.2.length
  · rw [if_pos h6] at h5; simp at h5
  · have h7 : r.2 = [] := List.eq_nil_of_length_eq_zero (by omega)
    rw [h7] at h5
    simp [Lib.compareBytes] at h5
def CountV (w : World) (l : List Rule) (k n : Int) (e : Ending) (w' : World) : Prop :=
  (if isCounted l k = true ∧ 0 ≤ n ∧ n ≤ 40 then (match countS l k.toNat n.toNat with
    | none => e = .returned (.tuple #[.slice none 0 0, .int .i64 5])
    | some out => ∃ A c, e = .returned (.tuple #[.slice A out.length c, .int .i64 0]) ∧ OwnI w' w.heap.size (.slice A out.length c) out)
   else e = .returned (.tuple #[.slice none 0 0, .int .i64 2])) ∧ Gr w w'
theorem countN_stop {tab : List (List Int)} {now : List Int} (h : totalN now 0 = none) (n : Nat) : countN tab n now = none := by unfold countN; rw [h]
theorem countN_last {tab : List (List Int)} {now : List Int} {s : Int} (h : totalN now 0 = some s) : countN tab 0 now = some [s] := by unfold countN; rw [h]
theorem countN_none {tab : List (List Int)} {now : List Int} {s : Int} (h : totalN now 0 = some s) (h2 : spread tab now = none) (n : Nat) : countN tab (n + 1) now = none := by unfold countN; rw [h, h2]
theorem countN_go {tab : List (List Int)} {now next : List Int} {s : Int} (h : totalN now 0 = some s) (h2 : spread tab now = some next) (n : Nat) : countN tab (n + 1) now = (countN tab n next).map (s :: ·) := by conv => lhs; unfold countN; rw [h]; simp only [h2]
theorem startN_cells (n : Nat) : (cellsI (List.replicate n 0)).setIfInBounds 0 (.int .i64 1) = cellsI (startN n) := by rw [cellsI_set]; rfl
set_option maxHeartbeats 4000000 in
set_option maxRecDepth 20000 in
theorem Count_any (l : List Rule) (k n : Int) (A : Option Addr) (c : Nat) (w : World) (hn : l.length ≤ 1000000000) (hk : -9223372036854775808 ≤ k ∧ k ≤ 9223372036854775807) (hnn : -9223372036854775808 ≤ n ∧ n ≤ 9223372036854775807) (hL : ∀ r ∈ l, r.1.length ≤ 1000000000 ∧ r.2.length ≤ 1000000000) (hl : RAt w A l) :
    Calls Try.prog 16 #[.slice A l.length c, .int .i64 k, .int .i64 n] w (CountV w l k n) := by
  have Hl := Lib.hid hl
  have HL := Lib.hid hL
  clear hl hL
  rcases hs : isCounted l k with _ | _
  · have Hs := Lib.hid hs
    clear hs
    go_enter Try.func16, Try.ntmps16
    go_wp2_with fail
    refine (isCounted_any l k A c w hn HL.out Hl.out).mono ?_
    rintro e w1 ⟨rfl, hg1⟩
    have Hg1 := Lib.hid hg1
    clear hg1
    rw [Hs.out]
    go_wp2
    go_ret2
    refine ⟨?_, Hg1.out⟩
    rw [if_neg (by simp [Hs.out])]
    rfl
  · have Hs := Lib.hid hs
    clear hs
    by_cases hnr : 0 ≤ n ∧ n ≤ 40
    · obtain ⟨hn0, hn40⟩ := hnr
      obtain ⟨h64, hr, hk1, hk8⟩ := isCounted_spec Hs.out
      have Hr := Lib.hid hr
      clear hr
      obtain ⟨kn, rfl⟩ : ∃ kn : Nat, k = kn := ⟨k.toNat, by omega⟩
      obtain ⟨nn, rfl⟩ : ∃ nn : Nat, n = nn := ⟨n.toNat, by omega⟩
      go_enter Try.func16, Try.ntmps16
      go_wp2_with fail
      refine (isCounted_any l kn A c w hn HL.out Hl.out).mono ?_
      rintro e w1 ⟨rfl, hg1⟩
      have Hg1 := Lib.hid hg1
      clear hg1
      rw [Hs.out]
      go_wp2_with fail
      refine (newAutomaton_any l kn A c _ h64 (by omega) (by omega) (fun r hr => (Hr.out r hr).1) (Hl.out.gr Hg1.out)).mono ?_
      rintro e w2 ⟨a, rfl, htab, hg2⟩
      have hok := Lib.hid (tableN_ok l kn h64 (fun r hr => (Hr.out r hr).1) (by omega))
      have hcs := Lib.hid (show countS l kn nn = countN (tableN l (states l) kn) nn (startN (tableN l (states l) kn).length) from by simp [countS, tableN])
      have hpos : 0 < (tableN l (states l) kn).length := by obtain ⟨t, ht⟩ := states_zero l; simp [tableN, ht]
      generalize tableN l (states l) kn = tab at htab hok hcs hpos
      have hlen := hok.out.1
      obtain ⟨NA, NC, hx0⟩ := htab.len
      have Htab := Lib.hid htab
      have Hg2 := Lib.hid (Hg1.out.trans hg2)
      clear htab hg2
      go_wp2_with (refine wpl_make rfl _ _ rfl tab.length rfl rfl (by omega) ?_; intro w3 hnb hg3 hos; have hnf := hnb.frozen 0; have hnc := hnb.cell 0; rw [cellsI_get _ _ (by simpa using hpos)] at hnc; replace hnb := Lib.hid hnb; replace hg3 := Lib.hid hg3)
      have hb4 := hnb.out.set_ 0 (.int .i64 1)
      rw [startN_cells] at hb4
      have hk4 : Gr w2 (w3.setCell ⟨w2.heap.size, 0, none⟩ (.int .i64 1)) := Gr.kp hg3.out (Kp.set1 _ _ _ _) (fun i h1 h2 => by omega)
      have hown9 := Lib.hid (Own.ofI (base := w2.heap.size) hb4 (Nat.le_refl _) (by rw [startN_len]; omega))
      rw [startN_len] at hown9
      have Hk4 := Lib.hid hk4
      clear hb4 hk4 hnc hnf hx0
      generalize w3.setCell ⟨w2.heap.size, 0, none⟩ (.int .i64 1) = w4 at *
      clear hos hnb hg3
      go_loopg [9, 10] (nn + 1) (fun gk v9 v10 wr => ∃ (now o : List Int) (u9 u10 : Value), u9 = v9 ∧ u10 = v10 ∧ gk + o.length = nn + 1 ∧ 1 ≤ gk ∧ now.length = tab.length ∧ Hid (Cap now) ∧ Hid (countN tab nn (startN tab.length) = (countN tab (gk - 1) now).map (o ++ ·)) ∧ Hid (OwnI wr w2.heap.size v9 now) ∧ Hid (OwnI wr w2.heap.size v10 o) ∧ Hid (∀ b, u9.ownBlock = some b → ¬ u10.ownBlock = some b) ∧ Hid (Gr w2 wr))
      case atStart =>
        refine ⟨startN tab.length, [], _, _, rfl, rfl, by simp, by omega, startN_len _, Lib.hid (Cap.start _), Lib.hid ?_, hown9, Lib.hid (Own.nil _ _ _ _ _), Lib.hid (fun b h1 h2 => by cases h2), Hk4⟩
        simp only [Nat.add_sub_cancel]
        cases countN tab nn (startN tab.length) <;> rfl
      case round =>
        clear hown9 Hk4
        obtain ⟨now, o, u9, u10, hu9, hu10, hgo, hg1, hnl, hcap, hcn, hown9, hown10, hdis, hg⟩ := hrel
        subst hu9 hu10
        obtain ⟨A9, c9, rfl, hl9, hc9⟩ := Own.slice hown9.out
        obtain ⟨A10, c10, rfl, hl10, hc10⟩ := Own.slice hown10.out
        have hat9 := Lib.hid (Own.at_ encI_ok hown9.out)
        clear hl9 hc9 hl10 hc10
        have Hnl := Lib.hid hnl
        clear hnl
        go_wp2_with fail
        refine (total_any now A9 c9 _ (by have := Hnl.out; omega) hcap.out hat9.out).mono ?_
        rintro e w5 ⟨rfl, hg5⟩
        have Hg5 := Lib.hid hg5
        clear hg5
        have hcs2 := Lib.hid (hcs.out.trans hcn.out)
        rcases htn : totalN now 0 with _ | s
        · have Htn := Lib.hid htn
          clear htn
          simp only [totalV]
          go_wp2
          go_ret2
          refine ⟨?_, (Hg2.out.trans hg.out).trans Hg5.out⟩
          rw [if_pos ⟨Hs.out, by omega, by omega⟩]
          simp only [Int.toNat_natCast]
          rw [hcs2.out, countN_stop Htn.out]
          rfl
        · have Htn := Lib.hid htn
          clear htn
          simp only [totalV]
          have Hown10 := Lib.hid ((hown10.out.gr Hg5.out).gr ((Kp.refl _ _).alloc (.cells #[.int .i64 s] 3)))
          have Hone := Lib.hid (At.of_blk (l := [s]) encI_ok (Blk.new w5 3 #[.int .i64 s]))
          have Hb5 := Lib.hid (show w2.heap.size ≤ (w5.alloc (.cells #[.int .i64 s] 3)).heap.size from by have h1 := hg.out.size; have h2 := Hg5.out.size; simp; omega)
          have hon : o.length ≤ 40 := by omega
          by_cases hend : gk = 1
          · have Hend := Lib.hid hend
            have hoe : o.length = nn := by omega
            have Hoe := Lib.hid hoe
            clear hoe hend hgo hg1
            have hgt : (nn : Int) < (o.length : Int) + 1 := by have := Hoe.out; omega
            go_wp2_with (at_builtin; refine wpl_append (l := o) (m := [s]) (base := w2.heap.size) rfl encI_ok elemI _ _ rfl rfl Hown10.out 1 rfl Hone.out (by simp; omega) Hb5.out ?_; intro v6 w6 hown6 hk6 hb6; obtain ⟨A6, c6, hv6, hl6, hc6⟩ := Own.slice hown6; subst hv6; clear hl6 hc6; replace hown6 := Lib.hid hown6; replace hk6 := Lib.hid hk6; replace hb6 := Lib.hid hb6)
            go_ret2
            have hg6 : Gr w2 w6 := Gr.kp ((hg.out.trans Hg5.out).alloc _) hk6.out (fun i h1 h2 => by have := (Own.lt hown10.out h2).1; omega)
            refine ⟨?_, Hg2.out.trans hg6⟩
            rw [if_pos ⟨Hs.out, by omega, by omega⟩]
            simp only [Int.toNat_natCast]
            rw [hcs2.out, Hend.out, countN_last Htn.out]
            refine ⟨A6, c6, ?_, hown6.out.weak Hg2.out.size⟩
            simp
          · have hgt : ¬ (nn : Int) < (o.length : Int) + 1 := by omega
            go_wp2_with (at_builtin; refine wpl_append (l := o) (m := [s]) (base := w2.heap.size) rfl encI_ok elemI _ _ rfl rfl Hown10.out 1 rfl Hone.out (by simp; omega) Hb5.out ?_; intro v6 w6 hown6 hk6 hb6; obtain ⟨A6, c6, hv6, hl6, hc6⟩ := Own.slice hown6; subst hv6; clear hl6 hc6; replace hown6 := Lib.hid hown6; replace hk6 := Lib.hid hk6; replace hb6 := Lib.hid hb6)
            have hg6 : Gr w2 w6 := Gr.kp ((hg.out.trans Hg5.out).alloc _) hk6.out (fun i h1 h2 => by have := (Own.lt hown10.out h2).1; omega)
            have h96 := ((hown9.out.gr Hg5.out).gr ((Kp.refl _ _).alloc (.cells #[.int .i64 s] 3))).kp hk6.out (fun b hb => hdis.out b hb)
            refine (spread_any tab now a A9 c9 _ hok.out Hnl.out hcap.out (Htab.out.gr hg6) (Own.at_ encI_ok h96)).mono ?_
            rintro e w7 ⟨hsp, hg7⟩
            have Hg67 := Lib.hid (hg6.trans hg7)
            have Hb6 := Lib.hid (show w2.heap.size ≤ w6.heap.size from hg6.size)
            have Hown7 := Lib.hid (hown6.out.gr hg7)
            have Hlt6 := Lib.hid (fun b (h : (Value.slice A6 (o.length + 1) c6).ownBlock = some b) => (Own.lt hown6.out (by rw [List.length_append]; exact h)).2)
            obtain ⟨g', hgk⟩ : ∃ g', gk = g' + 1 + 1 := ⟨gk - 2, by omega⟩
            have Hgk := Lib.hid hgk
            clear hg6 hg7 h96 hgk
            rcases hsr : spread tab now with _ | out
            · rw [hsr] at hsp
              simp only at hsp
              subst hsp
              have Hsr := Lib.hid hsr
              clear hsr
              go_wp2
              go_ret2
              refine ⟨?_, Hg2.out.trans Hg67.out⟩
              rw [if_pos ⟨Hs.out, by omega, by omega⟩]
              simp only [Int.toNat_natCast]
              rw [hcs2.out, Hgk.out, show g' + 1 + 1 - 1 = g' + 1 from rfl, countN_none Htn.out Hsr.out]
              rfl
            · rw [hsr] at hsp
              obtain ⟨A7, c7, rfl, hown7⟩ := hsp
              have Hsr := Lib.hid hsr
              have Hown77 := Lib.hid hown7
              have hol := (spread_cap hcap.out hsr).2
              have hoc := Lib.hid (spread_cap hcap.out hsr).1
              have Hol := Lib.hid hol
              clear hsr hown7 hol
              go_wp2
              go_roundg (g' + 1)
              case measure => have := Hgk.out; omega
              case rel =>
                refine ⟨out, o ++ [s], _, _, rfl, rfl, by have := Hgk.out; simp; omega, by omega, by rw [Hol.out, Hnl.out], hoc, Lib.hid ?_, Lib.hid (Hown77.out.weak Hb6.out), ?_, Lib.hid (fun b h1 h2 => ?_), Hg67⟩
                · rw [hcn.out, Hgk.out, show g' + 1 + 1 - 1 = g' + 1 from rfl, countN_go Htn.out Hsr.out]
                  simp only [Nat.add_sub_cancel, Option.map_map]
                  congr 1
                  funext x
                  simp
                · rw [List.length_append] at Hown7
                  exact Hown7
                · have h3 := (Own.lt Hown77.out h1).1
                  have h4 := Hlt6.out b h2
                  omega
    · go_enter Try.func16, Try.ntmps16
      go_wp2_with fail
      refine (isCounted_any l k A c w hn HL.out Hl.out).mono ?_
      rintro e w1 ⟨rfl, hg1⟩
      have Hg1 := Lib.hid hg1
      clear hg1
      rw [Hs.out]
      by_cases h0 : n < 0
      · go_wp2
        go_ret2
        refine ⟨?_, Hg1.out⟩
        rw [if_neg (by omega)]
        rfl
      · have h1 : 40 < n := by omega
        go_wp2
        go_ret2
        refine ⟨?_, Hg1.out⟩
        rw [if_neg (by omega)]
        rfl
end Go.Proofs.Ytffghamcggadcaa
