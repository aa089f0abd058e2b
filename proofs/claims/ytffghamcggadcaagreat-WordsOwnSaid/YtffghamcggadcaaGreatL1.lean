/- Contracts of the statements' own helpers: equal lists, a cut string, a copy of the first rules. -/
import Derived.Test.YtffghamcggadcaaGreatR3
import Derived.Test.YtffghamcggadcaaGreatCp
import Derived.Test.YtffghamcggadcaaGreatEx
namespace Go.Proofs.YtffghamcggadcaaGreat
open Go.RowKit Go.Maps
set_option linter.unusedVariables false
set_option linter.unusedSimpArgs false
attribute [local go_sem] B_size B_toList B_append B_extract B_get take_rest
set_option maxHeartbeats 1000000 in
set_option maxRecDepth 20000 in
theorem same_any (l m : List Rule) (A1 A2 : Option Addr) (c1 c2 : Nat) (w : World) (hn : l.length ≤ 1000000000) (hm : m.length ≤ 1000000000) (hl : RAt w A1 l) (hl2 : RAt w A2 m) :
    Calls Tryz.prog 9 #[.slice A1 l.length c1, .slice A2 m.length c2] w fun e w' => e = .returned (.bool (l == m)) ∧ Gr w w' := by
  have Hl := Lib.hid hl
  have Hm := Lib.hid hl2
  clear hl hl2
  by_cases hlen : l.length = m.length
  · have hne : ((l.length : Int) != (m.length : Int)) = false := by simp [hlen]
    have Hlen := Lib.hid hlen
    clear hlen
    go_enter Tryz.func9, Tryz.ntmps9
    go_wp2
    go_loopw [5] (fun vk wr => ∃ k : Nat, k ≤ l.length ∧ vk = .int .i64 k ∧ Hid (l.take k = m.take k) ∧ Hid (Gr w wr)) (fun vk _ => l.length - (intOf vk).toNat)
    case atStart => exact ⟨0, by omega, rfl, Lib.hid (by simp), Lib.hid (Kp.refl _ _)⟩
    case round =>
      obtain ⟨k, hk, rfl, ht, hg⟩ := hrel
      by_cases hlt : k < l.length
      · have hlt2 : k < m.length := by have := Hlen.out; omega
        obtain ⟨ad, rfl, h0, h1⟩ := RAt.get (Hl.out.gr hg.out) hlt
        obtain ⟨ad2, rfl, g0, g1⟩ := RAt.get (Hm.out.gr hg.out) hlt2
        have hq := fun w => neR w l[k] m[k]
        by_cases he : l[k] = m[k]
        · have he' : (l[k] == m[k]) = true := by simpa using he
          have He := Lib.hid he
          clear he
          go_wp2
          go_quiet (fail)
          go_wp2
          refine ⟨⟨k + 1, by omega, by go_num, Lib.hid ?_, Lib.hid (hg.out.drewN _)⟩, by simp [intOf]; omega⟩
          rw [List.take_succ_eq_append_getElem hlt, List.take_succ_eq_append_getElem hlt2, ht.out, He.out]
        · have he' : (l[k] == m[k]) = false := by simpa using he
          have He := Lib.hid he
          clear he
          go_wp2
          go_quiet (fail)
          go_wp2
          go_ret
          refine ⟨ret_bool ?_, hg.out.drewN _⟩
          symm
          rw [beq_eq_false_iff_ne]
          intro e
          subst e
          exact He.out rfl
      · go_wp2
        go_ret
        refine ⟨ret_bool ?_, hg.out⟩
        symm
        rw [beq_iff_eq]
        have h1 := ht.out
        rw [List.take_of_length_le (by omega), List.take_of_length_le (by have := Hlen.out; omega)] at h1
        exact h1
  · have hne : ((l.length : Int) != (m.length : Int)) = true := by simp; omega
    have hne' : ((l.length : Int) == (m.length : Int)) = false := by simp; omega
    have Hlen := Lib.hid hlen
    clear hlen
    go_enter Tryz.func9, Tryz.ntmps9
    go_wp2
    go_ret
    refine ⟨ret_bool ?_, Kp.refl _ _⟩
    symm
    rw [beq_eq_false_iff_ne]
    intro e
    exact Hlen.out (by rw [e])
theorem take_minI (s : Str) (n : Nat) : List.take (min (s.length : Int) (n : Int)).toNat s = s.take n := by
  by_cases h : s.length ≤ n
  · rw [show (min (s.length : Int) (n : Int)).toNat = s.length from by omega, List.take_length, List.take_of_length_le h]
  · rw [show (min (s.length : Int) (n : Int)).toNat = n from by omega]
set_option maxHeartbeats 1000000 in
theorem short_any (s : Str) (w : World) (hs : s.length ≤ 9223372036854775807) :
    Calls Tryz.prog 17 #[.string (B s)] w fun e w' => e = .returned (.string (B (s.take 201))) ∧ w' = w := by
  go_enter Tryz.func17, Tryz.ntmps17
  go_wp2
  go_ret
  exact ⟨ret_str (take_minI s 201), rfl⟩
/-- the copy of the first rules that the statements make -/
def cutN (l : List Rule) (most : Nat) : Nat := if 64 < l.length then 65 else min l.length most
def cut1 (r : Rule) : Rule := (r.1.take 25, r.2.take 25)
def cutRules (l : List Rule) (most : Nat) : List Rule := (l.take (cutN l most)).map cut1
theorem cutRules_len (l : List Rule) (most : Nat) (h : most ≤ 65) : (cutRules l most).length ≤ 65 := by
  unfold cutRules cutN
  simp
  split <;> omega
theorem cutRules_lens (l : List Rule) (most : Nat) : ∀ r ∈ cutRules l most, r.1.length ≤ 25 ∧ r.2.length ≤ 25 := by
  intro r hr
  obtain ⟨x, _, rfl⟩ := List.mem_map.1 hr
  simp [cut1]
  omega
set_option maxHeartbeats 4000000 in
set_option maxRecDepth 20000 in
theorem rules_any (l : List Rule) (most : Nat) (A : Option Addr) (c : Nat) (w : World) (hmost : most ≤ 64) (hn : l.length ≤ 9223372036854775807) (hL : ∀ r ∈ l, r.1.length ≤ 9223372036854775807 ∧ r.2.length ≤ 9223372036854775807) (hl : RAt w A l) :
    Calls Tryz.prog 7 #[.slice A l.length c, .int .i64 most] w (GivesR w (cutRules l most)) := by
  have Hl := Lib.hid hl
  have HL := Lib.hid hL
  have hN : (cutN l most ≤ 65 ∧ cutN l most ≤ l.length) := by unfold cutN; split <;> omega
  have hN1 := hN.1
  have HN := Lib.hid hN.2
  have hcu := Lib.hid (show cutRules l most = (l.take (cutN l most)).map cut1 from rfl)
  have hcut := Lib.hid (show cutN l most = if 64 < l.length then 65 else min l.length most from rfl)
  clear hl hL hN
  generalize cutN l most = N at *
  have hcase : (64 < l.length ∧ (65 : Int) = N) ∨ (¬ 64 < l.length ∧ min (l.length : Int) (most : Int) = N) := by
    have h := hcut.out
    by_cases h64 : 64 < l.length
    · rw [if_pos h64] at h; exact .inl ⟨h64, by omega⟩
    · rw [if_neg h64] at h; exact .inr ⟨h64, by omega⟩
  rcases hcase with ⟨h64, hNe⟩ | ⟨h64, hNe⟩
  all_goals
    have HNe := Lib.hid hNe
    clear hNe
    have h64' : decide ((64 : Int) < (l.length : Int)) = decide (64 < l.length) := by rw [decide_eq_decide]; omega
    simp only [h64, decide_true, decide_false] at h64'
    go_enter Tryz.func7, Tryz.ntmps7
    go_wp2
    rw [HNe.out]
    go_loopw [6, 7] (fun v vi wr => ∃ (i : Nat) (u : Value), u = v ∧ i ≤ N ∧ vi = .int .i64 i ∧ Hid (OwnR wr w.heap.size v ((l.take i).map cut1)) ∧ Hid (Gr w wr)) (fun _ vi _ => N - (intOf vi).toNat)
    case atStart => exact ⟨0, _, rfl, by omega, rfl, Lib.hid (by simpa using Own.nil _ _ _ _ _), Lib.hid (Kp.refl _ _)⟩
    case round =>
      obtain ⟨i, u, hu, hi, rfl, hown, hg⟩ := hrel
      subst hu
      by_cases hlt : i < N
      · have hlt2 : i < l.length := by have := HN.out; omega
        obtain ⟨ad, rfl, h0, h1⟩ := RAt.get Hl.out hlt2
        obtain ⟨hl1, hl2⟩ := HL.out l[i] (List.getElem_mem hlt2)
        obtain ⟨A6, c6, hv6, hlc6, hcm6⟩ := Own.slice hown.out
        have hml : ((l.take i).map cut1).length = i := by simp; omega
        rw [hml] at hv6 hlc6
        subst hv6
        have hb0 := World.block_lt_of_cell? w _ h0
        have q1 : 0 ≤ min (l[i].1.length : Int) 25 := by omega
        have q2 : min (l[i].1.length : Int) 25 ≤ (l[i].1.length : Int) := by omega
        have q3 : 0 ≤ min (l[i].2.length : Int) 25 := by omega
        have q4 : min (l[i].2.length : Int) 25 ≤ (l[i].2.length : Int) := by omega
        have HF : ∀ w', Kp (fun k => (Value.slice A6 i c6).ownBlock = some k) wr w' → w'.cell? (ad.add (i * 2)) = some (.string (B l[i].1)) ∧ w'.cell? ⟨(ad.add (i * 2)).block, (ad.add (i * 2)).off + 1, none⟩ = some (.string (B l[i].2)) :=
          fun w' hG => ⟨hG.cell (Gr.cell hg.out h0) (fun h => by have := (Own.lt hown.out h).1; omega), hG.cell (Gr.cell hg.out h1) (fun h => by have := (Own.lt hown.out (k := (ad.add (i * 2)).block) h).1; have h2 : (ad.add (i * 2)).block < w.heap.size := hb0; omega)⟩
        clear h0 h1 hb0
        replace HF := Lib.hid HF
        have Hml := Lib.hid hml
        clear hml
        go_wp2
        refine wp_region_S (fun k => (Value.slice A6 i c6).ownBlock = some k) [(0, true), (1, true), (2, true), (3, true), (4, true), (5, true), (6, true), (7, true), (8, true), (9, true), (10, true), (11, true), (12, true), (13, true), (14, true), (15, true), (16, true), (17, true), (18, true), (19, true), (20, true), (21, true), (22, true), (23, true), (24, true), (25, true), (26, true), (27, true), (28, false), (29, false), (30, true)] (by kernel_rfl) (by kernel_rfl) ?_
        iterate 28 (
          refine rp_val (v := ?_) rfl (fun _ _ _ h => h) rfl (fun w' hG => ?_) ?_
          rotate_left
          · have hF := HF.out w' hG
            clear hG
            go_simp
            try with_reducible rfl
          simp only [Act.put, List.setIfInBounds_toArray, List.set_cons_zero, List.set_cons_succ])
        refine rp_loud rfl (by rfl) (fun w6 hG6 K hK => ?_)
        replace hK := Lib.hid hK
        go_simp
        refine hK.out _ _ ((Kp.refl _ _).alloc _) ?_
        clear hK
        refine rp_loud rfl (by rfl) (fun w7 hG7 K hK => ?_)
        replace hK := Lib.hid hK
        have hb7 := Blk.gr (Blk.new w6 41 #[.string (B (List.take (min (l[i].1.length : Int) 25).toNat l[i].1)), .string (B (List.take (min (l[i].2.length : Int) 25).toNat l[i].2))]) hG7
        have hg67 := Lib.hid ((hG6.alloc (.cells #[.string (B (List.take (min (l[i].1.length : Int) 25).toNat l[i].1)), .string (B (List.take (min (l[i].2.length : Int) 25).toNat l[i].2))] 41)).trans hG7)
        refine wp_append (l := (l.take i).map cut1) (m := [(List.take (min (l[i].1.length : Int) 25).toNat l[i].1, List.take (min (l[i].2.length : Int) 25).toNat l[i].2)]) (base := w.heap.size) encR_ok elemR _ _ rfl rfl (hown.out.gr hg67.out) 1 rfl (At.of_blk encR_ok hb7) (by rw [Hml.out]; simp; omega) (by have := (hg.out.trans hg67.out).size; omega) (fun v8 w8 hown8 hk8 hb8 => ?_)
        refine hK.out _ _ hk8 ?_
        clear hK
        iterate 1 (
          refine rp_val (v := ?_) rfl (fun _ _ _ h => h) rfl (fun w' hG => ?_) ?_
          rotate_left
          · clear hG
            go_simp
            try with_reducible rfl
          simp only [Act.put, List.setIfInBounds_toArray, List.set_cons_zero, List.set_cons_succ])
        refine rp_done fun w9 hG9 => ?_
        go_wp2_with fail
        refine ⟨⟨i + 1, _, rfl, by omega, by go_num, Lib.hid ?_, Lib.hid ?_⟩, by simp [intOf]; omega⟩
        · have e := take_minI l[i].1 25
          have e2 := take_minI l[i].2 25
          rw [show ((25 : Nat) : Int) = 25 from rfl] at e e2
          rw [e, e2] at hown8
          rw [List.take_succ_eq_append_getElem hlt2, List.map_append]
          exact hown8.gr hG9
        · exact Gr.kp (hg.out.trans hg67.out) (hk8.trans (hG9.mono fun _ _ h => h.elim)) (fun k h1 h2 => by have := (Own.lt hown.out h2).1; omega)
      · obtain rfl : i = N := by omega
        go_wp2
        go_ret
        refine ⟨_, rfl, ?_, hg.out⟩
        rw [hcu.out]
        exact hown.out
end Go.Proofs.YtffghamcggadcaaGreat
