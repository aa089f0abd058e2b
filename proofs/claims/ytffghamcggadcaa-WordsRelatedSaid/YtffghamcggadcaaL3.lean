/- Contracts of the statements' own helpers: a string of the first letters, tame equations, their rules. -/
import Derived.Test.YtffghamcggadcaaL1
import Derived.Test.YtffghamcggadcaaAq
import Derived.Lib.BufferRead
namespace Go.Proofs.Ytffghamcggadcaa
open Go.RowKit Go.Maps
set_option linter.unusedVariables false
set_option linter.unusedSimpArgs false
attribute [local go_sem] B_size B_toList B_append B_extract B_get take_rest
theorem letter_nat' (d : Nat) (h : d < 100) : (letter d).toNat = 97 + d := by
  unfold letter
  rw [UInt8.toNat_ofNat']
  omega
def encB (c : UInt8) : List Value := [.int .u8 (c.toNat : Int)]
theorem encB_ok : EncOk encB 1 := ⟨by decide, fun _ => rfl, fun x u h => by simp [encB] at h; subst h; rfl⟩
theorem elemB : ElemOk Try.prog 46 5 1 := elem_of (z := .int .u8 0) (b := 1) Try.underlying46 (by kernel_rfl) (by decide) rfl
abbrev OwnB := Own encB 1 5
def wordS (s : Str) (most many : Nat) : Str := (s.take most).map fun c => letter (c.toNat % many)
theorem run_conv_own {w : World} {base n c : Nat} {A : Option Addr} {l : Str} (h : OwnB w base (.slice A n c) l) (hn : n = l.length) :
    (convert 46 9 (.slice A n c)).run Try.prog w = .ok (.string (B l)) w := by
  subst hn
  rcases A with _ | ad
  · have : l = [] := by
      rcases h.2 with ⟨_, hl⟩ | ⟨g, cap, cur, hv, _⟩
      · exact List.eq_nil_of_length_eq_zero hl
      · cases hv
    subst this
    exact Lib.run_convert_nil_bytes (P := Try.prog) w 46 9 5 c Try.underlying46 Try.underlying5 Try.underlying9
  · have hat := Own.at_ encB_ok h
    refine run_convert_bytes_back (P := Try.prog) w 46 9 5 ad c l Try.underlying46 Try.underlying5 Try.underlying9 (fun j hj => ?_)
    obtain ⟨ad', e, hc⟩ := hat j hj
    cases e
    have := hc 0 _ rfl
    simpa using this
set_option maxHeartbeats 4000000 in
set_option maxRecDepth 20000 in
theorem word_any (s : Str) (most many : Nat) (w : World) (hs : s.length ≤ 9223372036854775807) (hm : most ≤ 1000) (hk1 : 1 ≤ many) (hk8 : many ≤ 8) :
    Calls Try.prog 10 #[.string (B s), .int .i64 most, .int .i64 many] w fun e w' => e = .returned (.string (B (wordS s most many))) ∧ Gr w w' := by
  go_enter Try.func10, Try.ntmps10
  go_wp2
  go_loopw [7, 8] (fun v vi wr => ∃ (i : Nat) (u : Value), u = v ∧ i ≤ s.length ∧ i ≤ most ∧ vi = .int .i64 i ∧ Hid (OwnB wr w.heap.size v ((s.take i).map fun c => letter (c.toNat % many))) ∧ Hid (Gr w wr)) (fun _ vi _ => most - (intOf vi).toNat)
  case atStart => exact ⟨0, _, rfl, by omega, by omega, rfl, Lib.hid (by simpa using Own.nil _ _ _ _ _), Lib.hid (Kp.refl _ _)⟩
  case round =>
    obtain ⟨i, u, hu, hi, him, rfl, hown, hg⟩ := hrel
    subst hu
    obtain ⟨A6, c6, hv6, hlc6, hcm6⟩ := Own.slice hown.out
    have hml : ((s.take i).map fun c => letter (c.toNat % many)).length = i := by simp; omega
    rw [hml] at hv6 hlc6
    subst hv6
    have Hml := Lib.hid hml
    clear hml hlc6 hcm6
    by_cases h1 : i < s.length
    · by_cases h2 : i < most
      · have hx : s[i].toNat < 256 := UInt8.toNat_lt _
        have e : ((letter (s[i].toNat % many)).toNat : Int) = 97 + (s[i].toNat : Int) % many := by
          rw [letter_nat' _ (by have := Nat.mod_lt s[i].toNat (show many > 0 from by omega); omega)]
          simp
        have hmod : (s[i].toNat : Int) % (many : Int) < 8 := by have := Int.emod_lt_of_pos (s[i].toNat : Int) (show (0 : Int) < many from by omega); omega
        have hmod0 : 0 ≤ (s[i].toNat : Int) % (many : Int) := Int.emod_nonneg _ (by omega)
        have hone := Lib.hid (At.of_blk (l := [letter (s[i].toNat % many)]) encB_ok (Blk.new wr 5 #[.int .u8 ((letter (s[i].toNat % many)).toNat : Int)]))
        rw [e] at hone
        have Hown := Lib.hid (hown.out.gr ((Kp.refl _ _).alloc (.cells #[.int .u8 (97 + (s[i].toNat : Int) % many)] 5)))
        have Hg1 := Lib.hid (hg.out.alloc (.cells #[.int .u8 (97 + (s[i].toNat : Int) % many)] 5))
        clear e
        go_wp2_with (at_builtin; refine wpl_appendN (l := (s.take i).map fun c => letter (c.toNat % many)) (m := [letter (s[i].toNat % many)]) (base := w.heap.size) rfl encB_ok elemB _ _ rfl rfl Hown.out 1 _ (i + 1) rfl rfl hone.out (by rw [List.length_append, Hml.out]; rfl) (by omega) Hg1.out.size ?_; intro A7 c7 w7 hown7 hc7 hm7 hk7 hb7; clear hb7 hc7 hm7; replace hown7 := Lib.hid hown7; replace hk7 := Lib.hid hk7)
        refine ⟨⟨i + 1, _, rfl, by omega, by omega, by go_num, Lib.hid ?_, Lib.hid (Gr.kp Hg1.out hk7.out (fun k h1 h2 => by have := (Own.lt hown.out h2).1; omega))⟩, by simp [intOf]; omega⟩
        rw [List.take_succ_eq_append_getElem h1, List.map_append]
        exact hown7.out
      · have him2 : i = most := by omega
        have hconv := run_conv_own hown.out Hml.out.symm
        have Hi := Lib.hid him2
        clear him2
        go_wp2
        go_ret
        refine ⟨ret_str ?_, hg.out⟩
        unfold wordS
        rw [← Hi.out]
        simp
    · have hconv := run_conv_own hown.out Hml.out.symm
      have Hi := Lib.hid (show s.take i = s.take most from by rw [List.take_of_length_le (by omega), List.take_of_length_le (by omega)])
      go_wp2
      go_ret
      refine ⟨ret_str ?_, hg.out⟩
      unfold wordS
      rw [← Hi.out]
      simp
def tameS (l : List Rule) (many most k : Nat) : List Rule := (l.take many).map fun r => (wordS r.1 most k, wordS r.2 most k)
theorem wordS_len (s : Str) (most k : Nat) : (wordS s most k).length ≤ most := by unfold wordS; simp; omega
theorem tameS_len (l : List Rule) (many most k : Nat) : (tameS l many most k).length ≤ many := by unfold tameS; simp; omega
theorem tameS_lens (l : List Rule) (many most k : Nat) : ∀ r ∈ tameS l many most k, r.1.length ≤ most ∧ r.2.length ≤ most := by
  intro r hr
  obtain ⟨x, _, rfl⟩ := List.mem_map.1 hr
  exact ⟨wordS_len _ _ _, wordS_len _ _ _⟩
set_option maxHeartbeats 4000000 in
set_option maxRecDepth 20000 in
theorem tame_any (l : List Rule) (many most k : Nat) (A : Option Addr) (c : Nat) (w : World) (hmany : many ≤ 1000) (hm : most ≤ 1000) (hk1 : 1 ≤ k) (hk8 : k ≤ 8) (hn : l.length ≤ 9223372036854775807) (hL : ∀ r ∈ l, r.1.length ≤ 9223372036854775807 ∧ r.2.length ≤ 9223372036854775807) (hl : RAt w A l) :
    Calls Try.prog 14 #[.slice A l.length c, .int .i64 many, .int .i64 most, .int .i64 k] w (GivesR w (tameS l many most k)) := by
  have Hl := Lib.hid hl
  have HL := Lib.hid hL
  clear hl hL
  go_enter Try.func14, Try.ntmps14
  go_wp2
  go_loopw [9, 10] (fun v vi wr => ∃ (i : Nat) (u : Value), u = v ∧ i ≤ l.length ∧ i ≤ many ∧ vi = .int .i64 i ∧ Hid (OwnR wr w.heap.size v ((l.take i).map fun r => (wordS r.1 most k, wordS r.2 most k))) ∧ Hid (Gr w wr)) (fun _ vi _ => many - (intOf vi).toNat)
  case atStart => exact ⟨0, _, rfl, by omega, by omega, rfl, Lib.hid (by simpa using Own.nil _ _ _ _ _), Lib.hid (Kp.refl _ _)⟩
  case round =>
    obtain ⟨i, u, hu, hi, him, rfl, hown, hg⟩ := hrel
    subst hu
    obtain ⟨A6, c6, hv6, hlc6, hcm6⟩ := Own.slice hown.out
    have hml : ((l.take i).map fun r => (wordS r.1 most k, wordS r.2 most k)).length = i := by simp; omega
    rw [hml] at hv6 hlc6
    subst hv6
    have Hml := Lib.hid hml
    clear hml hlc6 hcm6
    by_cases h1 : i < l.length
    · by_cases h2 : i < many
      · obtain ⟨ad, rfl, h0, h1c⟩ := RAt.get Hl.out h1
        obtain ⟨hl1, hl2⟩ := HL.out l[i] (List.getElem_mem h1)
        have hb0 := World.block_lt_of_cell? w _ h0
        have HF : ∀ w', Kp (fun k => (Value.slice A6 i c6).ownBlock = some k) wr w' → w'.cell? (ad.add (i * 2)) = some (.string (B l[i].1)) ∧ w'.cell? ⟨(ad.add (i * 2)).block, (ad.add (i * 2)).off + 1, none⟩ = some (.string (B l[i].2)) :=
          fun w' hG => ⟨hG.cell (Gr.cell hg.out h0) (fun h => by have := (Own.lt hown.out h).1; omega), hG.cell (Gr.cell hg.out h1c) (fun h => by have := (Own.lt hown.out (k := (ad.add (i * 2)).block) h).1; have h2 : (ad.add (i * 2)).block < w.heap.size := hb0; omega)⟩
        clear h0 h1c hb0
        replace HF := Lib.hid HF
        go_wp2
        refine wp_region_S (fun k => (Value.slice A6 i c6).ownBlock = some k) [(0, true), (1, true), (2, true), (3, true), (4, true), (5, true), (6, true), (7, true), (8, true), (9, true), (10, true), (11, true), (12, true), (13, true), (14, true), (15, true), (16, true), (17, true), (18, false), (19, false), (20, true)] (by kernel_rfl) (by kernel_rfl) ?_
        iterate 8 (
          refine rp_val (v := ?_) rfl (fun _ _ _ h => h) rfl (fun w' hG => ?_) ?_
          rotate_left
          · have hF := HF.out w' hG
            clear hG
            go_simp
            try with_reducible rfl
          simp only [Act.put, List.setIfInBounds_toArray, List.set_cons_zero, List.set_cons_succ])
        refine rp_call (v := .string (B (wordS l[i].1 most k))) (f := 10) (args := #[.string (B l[i].1), .int .i64 most, .int .i64 k]) rfl (fun _ _ _ h => h) rfl (fun w' => ?_) (fun w' hG => ?_) ?_
        · go_simp
        · exact word_any l[i].1 most k w' hl1 hm hk1 hk8
        simp only [Act.put, List.setIfInBounds_toArray, List.set_cons_zero, List.set_cons_succ]
        iterate 7 (
          refine rp_val (v := ?_) rfl (fun _ _ _ h => h) rfl (fun w' hG => ?_) ?_
          rotate_left
          · have hF := HF.out w' hG
            clear hG
            go_simp
            try with_reducible rfl
          simp only [Act.put, List.setIfInBounds_toArray, List.set_cons_zero, List.set_cons_succ])
        refine rp_call (v := .string (B (wordS l[i].2 most k))) (f := 10) (args := #[.string (B l[i].2), .int .i64 most, .int .i64 k]) rfl (fun _ _ _ h => h) rfl (fun w' => ?_) (fun w' hG => ?_) ?_
        · go_simp
        · exact word_any l[i].2 most k w' hl2 hm hk1 hk8
        simp only [Act.put, List.setIfInBounds_toArray, List.set_cons_zero, List.set_cons_succ]
        iterate 1 (
          refine rp_val (v := ?_) rfl (fun _ _ _ h => h) rfl (fun w' hG => ?_) ?_
          rotate_left
          · have hF := HF.out w' hG
            clear hG
            go_simp
            try with_reducible rfl
          simp only [Act.put, List.setIfInBounds_toArray, List.set_cons_zero, List.set_cons_succ])
        refine rp_loud rfl (by rfl) (fun w6 hG6 K hK => ?_)
        replace hK := Lib.hid hK
        go_simp
        refine hK.out _ _ ((Kp.refl _ _).alloc _) ?_
        clear hK
        refine rp_loud rfl (by rfl) (fun w7 hG7 K hK => ?_)
        replace hK := Lib.hid hK
        have hb7 := Blk.gr (Blk.new w6 24 #[.string (B (wordS l[i].1 most k)), .string (B (wordS l[i].2 most k))]) hG7
        have hg67 := Lib.hid ((hG6.alloc (.cells #[.string (B (wordS l[i].1 most k)), .string (B (wordS l[i].2 most k))] 24)).trans hG7)
        refine wp_append (l := (l.take i).map fun r : Rule => (wordS r.1 most k, wordS r.2 most k)) (m := [(wordS l[i].1 most k, wordS l[i].2 most k)]) (base := w.heap.size) encR_ok elemR _ _ rfl rfl (hown.out.gr hg67.out) 1 rfl (At.of_blk encR_ok hb7) (by rw [Hml.out]; simp; omega) (by have := (hg.out.trans hg67.out).size; omega) (fun v8 w8 hown8 hk8 hb8 => ?_)
        refine hK.out _ _ hk8 ?_
        clear hK
        iterate 1 (
          refine rp_val (v := ?_) rfl (fun _ _ _ h => h) rfl (fun w' hG => ?_) ?_
          rotate_left
          · clear hG
            go_simp
            try with_reducible rfl
          simp only [Act.put, List.setIfInBounds_toArray, List.set_cons_zero, List.set_cons_succ])
        refine rp_done fun w9 hG9 => ?_
        go_wp2_with fail
        refine ⟨⟨i + 1, _, rfl, by omega, by omega, by go_num, Lib.hid ?_, Lib.hid ?_⟩, by simp [intOf]; omega⟩
        · rw [List.take_succ_eq_append_getElem h1, List.map_append]
          exact hown8.gr hG9
        · exact Gr.kp (hg.out.trans hg67.out) (hk8.trans (hG9.mono fun _ _ h => h.elim)) (fun k h1 h2 => by have := (Own.lt hown.out h2).1; omega)
      · have him2 : i = many := by omega
        have Hi := Lib.hid him2
        clear him2
        go_wp2
        go_ret
        refine ⟨_, rfl, ?_, hg.out⟩
        have e : tameS l many most k = (l.take i).map fun r => (wordS r.1 most k, wordS r.2 most k) := by unfold tameS; rw [Hi.out]
        rw [e]
        exact hown.out
    · have Hi := Lib.hid (show l.take i = l.take many from by rw [List.take_of_length_le (by omega), List.take_of_length_le (by omega)])
      go_wp2
      go_ret
      refine ⟨_, rfl, ?_, hg.out⟩
      have e : tameS l many most k = (l.take i).map fun r => (wordS r.1 most k, wordS r.2 most k) := by unfold tameS; rw [Hi.out]
      rw [e]
      exact hown.out
theorem oriented_take (l : List Rule) (i : Nat) (h : i < l.length) : oriented (l.take (i + 1)) = oriented (l.take i) ++ if l[i].1 = l[i].2 then [] else [directed l[i].1 l[i].2] := by
  unfold oriented
  rw [List.take_succ_eq_append_getElem h, List.filter_append, List.map_append]
  congr 1
  by_cases e : l[i].1 = l[i].2
  · rw [if_pos e, List.filter_cons_of_neg (by simp [e])]; rfl
  · rw [if_neg e, List.filter_cons_of_pos (by simpa using e)]; rfl
theorem oriented_len (l : List Rule) : (oriented l).length ≤ l.length := by unfold oriented; simpa using List.length_filter_le _ _
set_option maxHeartbeats 4000000 in
set_option maxRecDepth 20000 in
theorem oriented_any (l : List Rule) (A : Option Addr) (c : Nat) (w : World) (hn : l.length ≤ 1000000) (hL : Lens l) (hl : RAt w A l) :
    Calls Try.prog 15 #[.slice A l.length c] w (GivesR w (oriented l)) := by
  have Hl := Lib.hid hl
  have HL := Lib.hid hL
  clear hl hL
  go_enter Try.func15, Try.ntmps15
  go_wp2
  go_loopw [3, 4] (fun v vi wr => ∃ (i : Nat) (u : Value), u = v ∧ i ≤ l.length ∧ vi = .int .i64 i ∧ Hid (OwnR wr w.heap.size v (oriented (l.take i))) ∧ Hid (Gr w wr)) (fun _ vi _ => l.length - (intOf vi).toNat)
  case atStart => exact ⟨0, _, rfl, by omega, rfl, Lib.hid (by simpa [oriented] using Own.nil _ _ _ _ _), Lib.hid (Kp.refl _ _)⟩
  case round =>
    obtain ⟨i, u, hu, hi, rfl, hown, hg⟩ := hrel
    subst hu
    by_cases h1 : i < l.length
    · obtain ⟨ad, rfl, h00, h01⟩ := RAt.get Hl.out h1
      have h0 := Gr.cell hg.out h00
      have h1c := Gr.cell hg.out h01
      obtain ⟨hl1, hl2⟩ := HL.out l[i] (List.getElem_mem h1)
      by_cases he : l[i].1 = l[i].2
      · have he' : (l[i].1 == l[i].2) = true := by simpa using he
        have He := Lib.hid he
        clear he
        go_wp2
        go_quiet (fail)
        go_wp2
        refine ⟨⟨i + 1, _, rfl, by omega, by go_num, Lib.hid ?_, Lib.hid (hg.out.drewN _)⟩, by simp [intOf]; omega⟩
        rw [oriented_take l i h1, if_pos He.out, List.append_nil]
        exact hown.out.gr ((Kp.refl _ _).drewN _)
      · have he' : (l[i].1 == l[i].2) = false := by simpa using he
        have He := Lib.hid he
        clear he
        obtain ⟨A6, c6, hv6, hlc6, hcm6⟩ := Own.slice hown.out
        subst hv6
        have hol : (oriented (l.take i)).length ≤ 1000000 := by have := oriented_len (l.take i); simp at this; omega
        have hb0 := World.block_lt_of_cell? w _ h00
        go_wp2
        go_quiet (fail)
        obtain ⟨wn, hwn⟩ : ∃ x, x = wr.drewN nq := ⟨_, rfl⟩
        have hgn : Gr wr wn := by rw [hwn]; exact (Kp.refl _ _).drewN _
        rw [← hwn]
        clear hwn
        have Hgn := Lib.hid (hg.out.trans hgn)
        have Hown := Lib.hid (hown.out.gr hgn)
        have HF : ∀ w', Kp (fun k => (Value.slice A6 (oriented (l.take i)).length c6).ownBlock = some k) wn w' → w'.cell? (ad.add (i * 2)) = some (.string (B l[i].1)) ∧ w'.cell? ⟨(ad.add (i * 2)).block, (ad.add (i * 2)).off + 1, none⟩ = some (.string (B l[i].2)) :=
          fun w' hG => ⟨hG.cell (Gr.cell Hgn.out h00) (fun h => by have := (Own.lt hown.out h).1; omega), hG.cell (Gr.cell Hgn.out h01) (fun h => by have := (Own.lt hown.out (k := (ad.add (i * 2)).block) h).1; have h2 : (ad.add (i * 2)).block < w.heap.size := hb0; omega)⟩
        clear h0 h1c hb0 h00 h01 hgn
        replace HF := Lib.hid HF
        go_wp2
        refine wp_region_S (fun k => (Value.slice A6 (oriented (l.take i)).length c6).ownBlock = some k) [(0, true), (1, true), (2, true), (3, true), (4, true), (5, true), (6, true), (7, true), (8, true), (9, true), (10, true), (11, true), (12, false), (13, false), (14, true)] (by kernel_rfl) (by kernel_rfl) ?_
        iterate 11 (
          refine rp_val (v := ?_) rfl (fun _ _ _ h => h) rfl (fun w' hG => ?_) ?_
          rotate_left
          · have hF := HF.out w' hG
            clear hG
            go_simp
            try with_reducible rfl
          simp only [Act.put, List.setIfInBounds_toArray, List.set_cons_zero, List.set_cons_succ])
        refine rp_call (v := .agg #[.string (B (directed l[i].1 l[i].2).1), .string (B (directed l[i].1 l[i].2).2)]) (f := 32) (args := #[.string (B l[i].1), .string (B l[i].2)]) rfl (fun _ _ _ h => h) rfl (fun w' => ?_) (fun w' hG => ?_) ?_
        · go_simp
        · exact Oriented_any l[i].1 l[i].2 w' hl1 hl2
        simp only [Act.put, List.setIfInBounds_toArray, List.set_cons_zero, List.set_cons_succ]
        refine rp_loud rfl (by rfl) (fun w6 hG6 K hK => ?_)
        replace hK := Lib.hid hK
        go_simp
        refine hK.out _ _ ((Kp.refl _ _).alloc _) ?_
        clear hK
        refine rp_loud rfl (by rfl) (fun w7 hG7 K hK => ?_)
        replace hK := Lib.hid hK
        have hb7 := Blk.gr (Blk.new w6 24 #[.string (B (directed l[i].1 l[i].2).1), .string (B (directed l[i].1 l[i].2).2)]) hG7
        have hg67 := Lib.hid ((hG6.alloc (.cells #[.string (B (directed l[i].1 l[i].2).1), .string (B (directed l[i].1 l[i].2).2)] 24)).trans hG7)
        refine wp_append (l := oriented (l.take i)) (m := [directed l[i].1 l[i].2]) (base := w.heap.size) encR_ok elemR _ _ rfl rfl (Hown.out.gr hg67.out) 1 rfl (At.of_blk encR_ok hb7) (by simp; omega) (by have := (Hgn.out.trans hg67.out).size; omega) (fun v8 w8 hown8 hk8 hb8 => ?_)
        refine hK.out _ _ hk8 ?_
        clear hK
        iterate 1 (
          refine rp_val (v := ?_) rfl (fun _ _ _ h => h) rfl (fun w' hG => ?_) ?_
          rotate_left
          · clear hG
            go_simp
            try with_reducible rfl
          simp only [Act.put, List.setIfInBounds_toArray, List.set_cons_zero, List.set_cons_succ])
        refine rp_done fun w9 hG9 => ?_
        go_wp2_with fail
        refine ⟨⟨i + 1, _, rfl, by omega, by go_num, Lib.hid ?_, Lib.hid ?_⟩, by simp [intOf]; omega⟩
        · rw [oriented_take l i h1, if_neg He.out]
          exact hown8.gr hG9
        · exact Gr.kp (Hgn.out.trans hg67.out) (hk8.trans (hG9.mono fun _ _ h => h.elim)) (fun k h1 h2 => by have := (Own.lt hown.out h2).1; omega)
    · obtain rfl : i = l.length := by omega
      rw [List.take_length] at hown
      go_wp2
      go_ret
      exact ⟨_, rfl, hown.out, hg.out⟩
end Go.Proofs.Ytffghamcggadcaa
