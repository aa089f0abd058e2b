/- The walk of the statement WordsRelated. -/
import Derived.Test.YtffghamcggadcaaL2
import Derived.Test.YtffghamcggadcaaK4
namespace Go.Proofs.Ytffghamcggadcaa
open Go.RowKit Go.Maps
set_option linter.unusedVariables false
set_option linter.unusedSimpArgs false
attribute [local go_sem] B_size B_toList B_append B_extract B_get take_rest
theorem Gr.glob {w w' : World} (h : Glob w) (hg : Gr w w') : Glob w' := h.kp hg (fun h => h)
theorem mod_at (x y : Int) (n : Nat) (w : World) (hy : y = n) (hx : -9223372036854775808 ≤ x ∧ x ≤ 9223372036854775807) (hn : 1 ≤ n) (hn2 : n ≤ 1000000000) :
    Calls Try.prog 7 #[.int .i64 x, .int .i64 y] w fun e w' => (∃ r : Nat, r < n ∧ e = .returned (.int .i64 r)) ∧ w' = w := by
  subst hy
  exact mod_any x n w hx hn hn2
theorem tdiv7 {x : Int} (h : -9223372036854775808 ≤ x ∧ x ≤ 9223372036854775807) : -9223372036854775808 ≤ x.tdiv 7 ∧ x.tdiv 7 ≤ 9223372036854775807 := by
  rw [Int.tdiv_eq_ediv, show Int.sign 7 = 1 from rfl]
  split <;> omega
set_option maxHeartbeats 4000000 in
set_option maxRecDepth 20000 in
theorem WordsRelated_any (l : List Rule) (s : Str) (ns : List Int) (A : Option Addr) (c : Nat) (A2 : Option Addr) (c2 : Nat) (w : World) (hn : l.length ≤ 9223372036854775807) (hL : ∀ r ∈ l, r.1.length ≤ 9223372036854775807 ∧ r.2.length ≤ 9223372036854775807) (hl : RAt w A l) (hs : s.length ≤ 9223372036854775807) (hn2 : ns.length ≤ 9223372036854775807) (hI : ∀ x ∈ ns, -9223372036854775808 ≤ x ∧ x ≤ 9223372036854775807) (hl2 : IAt w A2 ns) (hz : 0 < w.heap.size) (hg : Glob w) :
    Calls Try.prog 4 #[.slice A l.length c, .string (B s), .slice A2 ns.length c2] w fun e w' => e = .returned (.bool true) ∧ Gr w w' := by
  have Hl := Lib.hid hl
  have HL := Lib.hid hL
  have HI := Lib.hid hI
  have Hl2 := Lib.hid hl2
  have Hg := Lib.hid hg
  clear hl hL hg hI hl2
  go_enter Try.func4, Try.ntmps4
  go_wp2_with fail
  refine (tame_any l 5 5 3 A c w (by omega) (by omega) (by omega) (by omega) hn HL.out Hl.out).mono ?_
  rintro e w1 ⟨v1, rfl, hown1, hg1⟩
  have Hg1 := Lib.hid hg1
  obtain ⟨A1, c1, rfl, hlc1, hcm1⟩ := Own.slice hown1
  have Hat1 := Lib.hid (Own.at_ encR_ok hown1)
  clear hown1 hg1 hlc1 hcm1
  go_wp2_with fail
  refine (word_any s 12 3 w1 hs (by omega) (by omega) (by omega)).mono ?_
  rintro e w2 ⟨rfl, hg2⟩
  have Hg2 := Lib.hid (Hg1.out.trans hg2)
  have Hat2 := Lib.hid (Hat1.out.gr hg2)
  clear hg2
  have hlen := tameS_len l 5 5 3
  have Hls := Lib.hid (tameS_lens l 5 5 3)
  have Hdg := Lib.hid (tameS_dig l 5 5 3 (by omega) (by omega))
  have Heq := Lib.hid (tame_areEqs l 5 5 3 5 (by omega) (by omega) (by omega) (by omega) (by omega))
  generalize tameS l 5 5 3 = m at *
  have halen := wordS_len s 12 3
  have Had := Lib.hid (wordS_dig s 12 3 (by omega) (by omega))
  generalize wordS s 12 3 = a at *
  go_wp2_with fail
  go_loopw [9, 10] (fun v vi wr => ∃ (i : Nat) (bs : Str), v = .string (B bs) ∧ i ≤ 8 ∧ vi = .int .i64 i ∧ bs.length ≤ 99 ∧ Hid (Conv m a bs ∧ Dig 3 96 bs) ∧ Hid (Gr w2 wr)) (fun _ vi _ => 9 - (intOf vi).toNat)
  case atStart => exact ⟨0, a, rfl, by omega, rfl, by omega, Lib.hid ⟨.refl _, Had.out⟩, Kp.refl _ _⟩
  case round =>
    obtain ⟨i, bs, rfl, hi, rfl, hbl, hcv, hg⟩ := hrel
    have hsp : (i < ns.length ∧ i < 8 ∧ 0 < m.length) ∨ (i < ns.length ∧ i < 8 ∧ ¬ 0 < m.length) ∨ (i < ns.length ∧ ¬ i < 8) ∨ ¬ i < ns.length := by omega
    rcases hsp with ⟨h1, h2, h3⟩ | ⟨h1, h2, h3⟩ | ⟨h1, h2⟩ | h1
    · obtain ⟨ad2, rfl, hi0⟩ := IAt.get (Hl2.out.gr (Hg2.out.trans hg.out)) h1
      obtain ⟨ad, rfl, _, _⟩ := RAt.get (Hat2.out.gr hg.out) h3
      have q2 : ∀ o, (wr.alloc o).cell? (ad2.add i) = some (.int .i64 ns[i]) := fun o => (Kp.alloc (Kp.refl (fun _ => False) wr) o).cell hi0 (fun h => h)
      have q3 : ∀ o v v', (((wr.alloc o).setCell ⟨wr.heap.size, 0, none⟩ v).setCell ⟨wr.heap.size, 1, none⟩ v').cell? (ad2.add i) = some (.int .i64 ns[i]) := fun o v v' =>
        (((Kp.alloc (Kp.refl (fun k => wr.heap.size ≤ k) wr) o).setCell (fun _ => Nat.le_refl _) v).setCell (fun _ => Nat.le_refl _) v').cell hi0 (Nat.not_le.2 (World.block_lt_of_cell? wr _ hi0))
      have hin := HI.out ns[i] (List.getElem_mem h1)
      go_wp2_with fail
      refine (mod_at _ _ m.length _ (by first | rfl | simp | omega) hin (by omega) (by omega)).mono ?_
      rintro e w4 ⟨⟨r, hr, rfl⟩, rfl⟩
      obtain ⟨_, hade, q0, q1⟩ := RAt.get (Hat2.out.gr hg.out) hr
      cases hade
      have hlr := Hls.out m[r] (List.getElem_mem hr)
      have hdr := Lib.hid (Hdg.out m[r] (List.getElem_mem hr))
      have hmr := Lib.hid (List.getElem_mem hr)
      have hcm : Conv m m[r].1 m[r].2 := .fwd (Step.rule hmr.out) (.refl _)
      have hdr1 := Lib.hid hdr.out.1
      have hdr2 := Lib.hid hdr.out.2
      have hHc := Lib.hid hcm
      clear hcm hdr hmr
      by_cases hpar : Int.tmod ns[i] 2 = 0
      case' pos =>
        go_wp2_with fail
        have hX := Lib.hid hHc.out.symm
        have hX1 := hdr2
        have hX2 := hdr1
        have hXl : m[r].2.length ≤ 5 ∧ m[r].1.length ≤ 5 := ⟨hlr.2, hlr.1⟩
        clear q0 q1 q2 q3 hHc hdr1 hdr2 hlr hpar
        generalize m[r].2 = X at *
        generalize m[r].1 = Y at *
      case' neg =>
        go_wp2_with fail
        have hX := Lib.hid hHc.out
        have hX1 := hdr1
        have hX2 := hdr2
        have hXl : m[r].1.length ≤ 5 ∧ m[r].2.length ≤ 5 := ⟨hlr.1, hlr.2⟩
        clear q0 q1 q2 q3 hHc hdr1 hdr2 hlr hpar
        generalize m[r].1 = X at *
        generalize m[r].2 = Y at *
      all_goals
        refine (mod_at _ _ (bs.length + 1) _ (by push_cast; rfl) (tdiv7 hin) (by omega) (by omega)).mono ?_
        rintro e w6 ⟨⟨p, hp, rfl⟩, rfl⟩
        clear hin
        have hb := Lib.hid (Blk.new w4 24 #[.string (B X), .string (B Y)])
        have hgq := Lib.hid (hg.out.alloc (.cells #[.string (B X), .string (B Y)] 24))
        clear hg hi0
        generalize w4.alloc (.cells #[.string (B X), .string (B Y)] 24) = wq at *
        generalize hba : w4.heap.size = ba at *
        clear hba
        have hb2 := hb.out.two
        have hpre := prefix_take (bs.drop p) X
        by_cases hlp : p + X.length ≤ bs.length
        · have hd : decide ((p : Int) + (X.length : Int) ≤ (bs.length : Int)) = true := by simp; omega
          rcases Bool.eq_false_or_eq_true (pre X (bs.drop p)) with hpp | hpp
          · rw [hpp] at hpre
            have Hpp := Lib.hid hpp
            clear hpp
            by_cases hfit : bs.length + Y.length < 100
            · have hd2 : decide ((bs.length : Int) + (Y.length : Int) < 100) = true := by simp; omega
              go_wp2_with fail
              go_quiet (fail)
              have hov1 : ¬ 9223372036854775807 < p + Y.length := by omega
              have hov2 : ¬ 9223372036854775807 < p + Y.length + (bs.length - (p + X.length)) := by omega
              clear hd hd2
              obtain ⟨wn, hwn⟩ : ∃ x, x = wq.drewN nq := ⟨_, rfl⟩
              have hgn : Gr wq wn := by rw [hwn]; exact (Kp.refl _ _).drewN _
              rw [← hwn]
              have hb3 := (hb.out.gr hgn).two
              have hgn' := Lib.hid (hgq.out.trans hgn)
              clear hwn hb2 hgq hgn hb
              go_wp2_with fail
              go_quiet (fail)
              go_wp2_with fail
              refine ⟨⟨i + 1, bs.take p ++ Y ++ bs.drop (p + X.length), by rw [List.append_assoc], by omega, by go_num, ?_, Lib.hid ⟨hcv.out.1.trans (conv_at hX.out hlp Hpp.out), ?_⟩, Lib.hid (hgn'.out.drewN _)⟩, by simp [intOf]; omega⟩
              · simp only [List.length_append, List.length_take, List.length_drop]
                omega
              · intro ch hch
                simp only [List.mem_append] at hch
                rcases hch with (h | h) | h
                · exact hcv.out.2 ch (List.mem_of_mem_take h)
                · exact hX2.out ch h
                · exact hcv.out.2 ch (List.mem_of_mem_drop h)
            · have hd2 : decide ((bs.length : Int) + (Y.length : Int) < 100) = false := by simp; omega
              go_wp2_with fail
              go_quiet (fail)
              go_wp2_with fail
              exact ⟨⟨i + 1, bs, rfl, by omega, by go_num, hbl, hcv, Lib.hid (hgq.out.drewN _)⟩, by simp [intOf]; omega⟩
          · rw [hpp] at hpre
            go_wp2_with fail
            go_quiet (fail)
            go_wp2_with fail
            exact ⟨⟨i + 1, bs, rfl, by omega, by go_num, hbl, hcv, Lib.hid (hgq.out.drewN _)⟩, by simp [intOf]; omega⟩
        · have hd : decide ((p : Int) + (X.length : Int) ≤ (bs.length : Int)) = false := by simp; omega
          go_wp2_with fail
          go_quiet (fail)
          go_wp2_with fail
          exact ⟨⟨i + 1, bs, rfl, by omega, by go_num, hbl, hcv, Lib.hid (hgq.out.drewN _)⟩, by simp [intOf]; omega⟩
    all_goals
      go_wp2_with fail
      refine (Equal_any m 5 a bs A1 c1 _ (by omega) (by omega) (by omega) (by omega) (fun r hr => by have := Hls.out r hr; omega) (Hat2.out.gr hg.out) (by have := Hg2.out.size; have := hg.out.size; omega) (Gr.glob Hg.out (Hg2.out.trans hg.out))).mono ?_
      rintro e w5 ⟨rfl, hg5⟩
      have Hg5 := Lib.hid ((Hg2.out.trans hg.out).trans hg5)
      have hE := equal_related (eqs := m) (n := 5) (a := a) (c := bs) Heq.out (by unfold isString; rw [dig_letters (by omega) Had.out]; simp; omega) (by unfold isString; rw [dig_letters (by omega) hcv.out.2]; simp; omega) Hdg.out hcv.out.1
      clear hg5
      rcases hE with hE | hE | hE
      all_goals
        rw [show ((5 : Nat) : Int) = 5 from rfl] at hE
        rw [hE]
        clear hE
        go_wp2_with fail
        refine (awake_any _ (by have := Hg5.out.size; omega) (Gr.glob Hg.out Hg5.out)).mono ?_
        rintro e w6 ⟨rfl, hg6⟩
        have Hg6 := Lib.hid (Hg5.out.trans hg6)
        clear hg6
        go_wp2
        go_ret
        exact ⟨rfl, Hg6.out⟩
end Go.Proofs.Ytffghamcggadcaa
