/- Contract of the reference: putting a rule in at its place. -/
import Derived.Test.YtffghamcggadcaaGreatR3
import Derived.Test.YtffghamcggadcaaGreatCp
import Derived.Test.YtffghamcggadcaaGreatPt
namespace Go.Proofs.YtffghamcggadcaaGreat
open Go.RowKit Go.Maps
set_option linter.unusedVariables false
set_option linter.unusedSimpArgs false
attribute [local go_sem] B_size B_toList B_append B_extract B_get take_rest
theorem put_take (r : Rule) : ∀ (k : Nat) (l : List Rule), k ≤ l.length → (∀ i (h : i < l.length), i < k → byLeft l[i] r < 0) → put r l = l.take k ++ put r (l.drop k)
  | 0, l, _, _ => by simp
  | k + 1, [], h, _ => absurd h (by simp)
  | k + 1, x :: l, h, hb => by
    have hx : byLeft x r < 0 := hb 0 (by simp) (by omega)
    have ih := put_take r k l (by simpa using h) (fun i hi hk => hb (i + 1) (by simpa using hi) (by omega))
    conv => lhs; unfold put
    rw [if_pos hx, ih]
    rfl
theorem put_end (r : Rule) (l : List Rule) (h : ∀ i (h : i < l.length), byLeft l[i] r < 0) : put r l = l ++ [r] := by
  rw [put_take r l.length l (Nat.le_refl _) (fun i hi _ => h i hi)]
  simp [put]
theorem put_there (r : Rule) (l : List Rule) (k : Nat) (hk : k < l.length) (h : ∀ i (h : i < l.length), i < k → byLeft l[i] r < 0) (hn : ¬ byLeft l[k] r < 0) (e : l[k] = r) : put r l = l := by
  rw [put_take r k l (by omega) h, List.drop_eq_getElem_cons hk]
  conv => lhs; rhs; unfold put
  rw [if_neg hn, if_pos e, ← List.drop_eq_getElem_cons hk, List.take_append_drop]
theorem put_here (r : Rule) (l : List Rule) (k : Nat) (hk : k < l.length) (h : ∀ i (h : i < l.length), i < k → byLeft l[i] r < 0) (hn : ¬ byLeft l[k] r < 0) (e : l[k] ≠ r) : put r l = (l.take k ++ [r]) ++ l.drop k := by
  rw [put_take r k l (by omega) h]
  conv => lhs; rhs; rw [List.drop_eq_getElem_cons hk]; unfold put
  rw [if_neg hn, if_neg e, ← List.drop_eq_getElem_cons hk]
  simp
set_option maxHeartbeats 4000000 in
set_option maxRecDepth 20000 in
theorem refPut_any (l : List Rule) (r : Rule) (A : Option Addr) (c : Nat) (w : World) (hn : l.length ≤ 1000000) (hc : l.length ≤ c) (hcm : c ≤ maxLen) (hA : A = none → c = 0) (hL : ∀ r ∈ l, r.1.length ≤ 1000000000 ∧ r.2.length ≤ 1000000000) (hr : r.1.length ≤ 1000000000 ∧ r.2.length ≤ 1000000000) (hl : RAt w A l) :
    Calls Tryz.prog 32 #[.slice A l.length c, .agg #[.string (B r.1), .string (B r.2)]] w (GivesL w (put r l)) := by
  have Hl := Lib.hid hl
  have HL := Lib.hid hL
  have HA := Lib.hid hA
  have hcm' : c ≤ 9223372036854775807 := by simpa [maxLen] using hcm
  have Hcm := Lib.hid hcm
  clear hl hcm hL hA
  have hrb := Lib.hid (Blk.new w 41 #[.string (B r.1), .string (B r.2)])
  go_enter Tryz.func32, Tryz.ntmps32
  go_wp2
  go_loopw [5] (fun vk wr => ∃ k : Nat, k ≤ l.length ∧ vk = .int .i64 k ∧ Hid (∀ i (h : i < l.length), i < k → byLeft l[i] r < 0) ∧ Hid (Gr (w.alloc (.cells #[.string (B r.1), .string (B r.2)] 41)) wr)) (fun vk _ => l.length - (intOf vk).toNat)
  case atStart => exact ⟨0, by omega, rfl, Lib.hid (fun i _ h => absurd h (by omega)), Lib.hid (Kp.refl _ _)⟩
  case round =>
    obtain ⟨k, hk, rfl, hm, hg⟩ := hrel
    have hg0 : Gr w wr := ((Kp.refl _ w).alloc _).trans hg.out
    have hrb2 := (hrb.out.gr hg.out).two
    by_cases hlt : k < l.length
    · obtain ⟨ad, hAe, h0, h1⟩ := RAt.get (Hl.out.gr hg0) hlt
      subst hAe
      obtain ⟨hl1, hl2⟩ := HL.out l[k] (List.getElem_mem hlt)
      have HF : ∀ w', Gr wr w' → w'.cell? (ad.add (k * 2)) = some (.string (B l[k].1)) ∧ w'.cell? ⟨(ad.add (k * 2)).block, (ad.add (k * 2)).off + 1, none⟩ = some (.string (B l[k].2)) ∧ w'.cell? ⟨w.heap.size, 0, none⟩ = some (.string (B r.1)) ∧ w'.cell? ⟨w.heap.size, 1, none⟩ = some (.string (B r.2)) :=
        fun w' hG => ⟨Gr.cell hG h0, Gr.cell hG h1, Gr.cell hG hrb2.1, Gr.cell hG hrb2.2.1⟩
      clear h0 h1 hrb2
      replace HF := Lib.hid HF
      have Hg0 := Lib.hid hg0
      clear hg0
      go_wp2
      refine wp_region_S (fun _ => False) [(0, true), (1, true), (2, true), (3, true), (4, true), (5, true), (6, true), (7, true), (8, true), (9, true), (10, true), (11, true)] (by kernel_rfl) (by kernel_rfl) ?_
      iterate 10 (
        refine rp_val (v := ?_) rfl (fun _ _ _ h => h) rfl (fun w' hG => ?_) ?_
        rotate_left
        · have hF := HF.out w' hG
          clear hG
          go_simp
          try with_reducible rfl
        simp only [Act.put, List.setIfInBounds_toArray, List.set_cons_zero, List.set_cons_succ])
      refine rp_call (v := .bool (decide (byLeft l[k] r < 0))) (f := 67) (args := #[.agg #[.string (B l[k].1), .string (B l[k].2)], .agg #[.string (B r.1), .string (B r.2)]]) rfl (fun _ _ _ h => h) rfl (fun w' => ?_) (fun w' hG => ?_) ?_
      · go_simp
      · exact before_any l[k] r _ hl1 hl2 hr.1 hr.2
      simp only [Act.put, List.setIfInBounds_toArray, List.set_cons_zero, List.set_cons_succ]
      by_cases hb : byLeft l[k] r < 0
      · skip
        iterate 1 (
          refine rp_val (v := ?_) rfl (fun _ _ _ h => h) rfl (fun w' hG => ?_) ?_
          rotate_left
          · clear hG
            go_simp
            try with_reducible rfl
          simp only [Act.put, List.setIfInBounds_toArray, List.set_cons_zero, List.set_cons_succ])
        refine rp_done fun w4 hG4 => ?_
        go_wp2
        refine ⟨⟨k + 1, by omega, by go_num, Lib.hid (fun i h1 h2 => ?_), Lib.hid (hg.out.trans hG4)⟩, by simp [intOf]; omega⟩
        by_cases e : i = k
        · subst e; exact hb
        · exact hm.out i h1 (by omega)
      · have Hb := Lib.hid hb
        iterate 1 (
          refine rp_val (v := ?_) rfl (fun _ _ _ h => h) rfl (fun w' hG => ?_) ?_
          rotate_left
          · clear hG
            go_simp
            try with_reducible rfl
          simp only [Act.put, List.setIfInBounds_toArray, List.set_cons_zero, List.set_cons_succ])
        refine rp_done fun w4 hG4 => ?_
        clear hb
        have Hg4 := Lib.hid (hg.out.trans hG4)
        clear hG4 HF hg
        have q4 := (hrb.out.gr Hg4.out).two
        obtain ⟨ad', hAe', h0, h1⟩ := RAt.get (Hl.out.gr (((Kp.refl _ w).alloc _).trans Hg4.out)) hlt
        cases hAe'
        have heq := fun w => eqR w l[k] r
        by_cases he : l[k] = r
        · have he' : (l[k] == r) = true := by simpa using he
          have Hfin := Lib.hid (put_there r l k hlt hm.out Hb.out he)
          have Hg40 := Lib.hid (((Kp.refl _ w).alloc _).trans Hg4.out)
          clear he
          go_wp2
          go_quiet (fail)
          go_wp2
          go_ret
          exact ⟨some ad, c, by rw [Hfin.out]; rfl, by rw [Hfin.out]; exact hc, Hcm.out, (fun h => by cases h), by rw [Hfin.out]; exact At.gr (Hl.out.gr Hg40.out) ((Kp.refl _ _).drewN _), Hg40.out.drewN _⟩
        · have he' : (l[k] == r) = false := by simpa using he
          have Hfin := Lib.hid (put_here r l k hlt hm.out Hb.out he)
          have Hl1 := Lib.hid (show (l.take k).length = k from by simp; omega)
          have Hl2 := Lib.hid (show (l.drop k).length = l.length - k from by simp)
          have Hln3 := Lib.hid (show ((l.take k ++ [r]) ++ l.drop k).length = l.length + 1 from by simp; omega)
          have hck : ¬ c = k := by omega
          clear he
          go_wp2
          go_quiet (fail)
          obtain ⟨wn, hwn⟩ : ∃ x, x = w4.drewN nq := ⟨_, rfl⟩
          rw [← hwn]
          replace Hg4 := Lib.hid (show Gr (w.alloc (.cells #[.string (B r.1), .string (B r.2)] 41)) wn from by rw [hwn]; exact Hg4.out.drewN _)
          have Hg40 := Lib.hid (((Kp.refl _ w).alloc _).trans Hg4.out)
          have Hnil := Lib.hid (Own.nil encR 2 41 wn w.heap.size)
          clear hwn q4
          go_wp2_with (first | (at_builtin; refine wpl_appendN (l := l.take k ++ [r]) (m := l.drop k) (base := w.heap.size) rfl encR_ok elemR _ _ rfl rfl Hown2.out (l.length - k) _ (l.length + 1) Hl2.out rfl (RAt.drop (Hl.out.gr Hg6.out) k) Hln3.out (by omega) Hg6.out.size ?_; intro A3 c3 w7 hown3 hc3 hm3 hk3 hb3; clear hb3; have Hown3 := Lib.hid hown3; have Hg7 := Lib.hid (Gr.kp Hg6.out hk3 (fun i h1 h2 => by have := (Own.lt Hown2.out h2).1; omega)); have Hc3 := Lib.hid hc3; have Hm3 := Lib.hid hm3; clear hown3 hk3 hc3 hm3) | (at_builtin; refine wpl_appendN (l := l.take k) (m := [r]) (base := w.heap.size) rfl encR_ok elemR _ _ rfl rfl (Hown1.out.gr ((Kp.refl _ _).alloc _)) 1 _ (k + 1) rfl rfl (At.of_blk encR_ok (Blk.new w5 41 #[.string (B r.1), .string (B r.2)])) (by rw [List.length_append, Hl1.out]; rfl) (by omega) (Hg5.out.alloc _).size ?_; intro A2 c2 w6 hown2 hc2 hm2 hk2 hb2; clear hb2 hc2 hm2 q5; have Hown2 := Lib.hid hown2; have Hg6 := Lib.hid (Gr.kp (Hg5.out.alloc _) hk2 (fun i h1 h2 => by have := (Own.lt Hown1.out h2).1; omega)); clear hown2 hk2) | (at_builtin; refine wpl_appendN (l := []) (m := l.take k) (v := .slice none 0 0) (base := w.heap.size) rfl encR_ok elemR _ _ rfl rfl Hnil.out (k) _ (k) Hl1.out rfl (RAt.take (Hl.out.gr Hg40.out) k) (by rw [List.nil_append]; exact Hl1.out) (by omega) Hg40.out.size ?_; intro A1 c1 w5 hown1 hc1 hm1 hk1 hb1; rw [List.nil_append] at hown1; clear hc1 hm1 hb1; have Hown1 := Lib.hid hown1; have Hg45 : Hid (Gr wn w5) := Lib.hid (Gr.kp (Kp.refl (fun _ => False) wn) hk1 (fun i h1 h2 => by cases h2)); have Hg5 := Lib.hid (Hg40.out.trans Hg45.out); have q5 := (hrb.out.gr (Hg4.out.trans Hg45.out)).two; clear hown1 hk1))
          go_ret
          have e := Hfin.out
          have e2 := congrArg List.length e
          rw [Hln3.out] at e2
          exact ⟨A3, c3, by rw [e2]; rfl, by rw [e2]; exact Hc3.out, Hm3.out, Own.none0 Hown3.out, Own.at_ (base := w.heap.size) encR_ok (by rw [e2, e]; exact Hown3.out), Hg7.out⟩
    · obtain rfl : k = l.length := by omega
      have Hfin := Lib.hid (put_end r l (fun i h => hm.out i h h))
      have Hl1 := Lib.hid (show (l.take l.length).length = l.length from by simp)
      have Hln3 := Lib.hid (show ((l.take l.length ++ [r]) ++ []).length = l.length + 1 from by simp)
      clear hg0 hrb2
      have hcs : (A = none ∧ c = 0 ∧ l.length = 0) ∨ (∃ ad, A = some ad ∧ c = l.length) ∨ (∃ ad, A = some ad ∧ ¬ c = l.length ∧ l.length < c) := by
        cases A with
        | none => exact .inl ⟨rfl, HA.out rfl, by have := HA.out rfl; omega⟩
        | some ad =>
          by_cases h : c = l.length
          · exact .inr (.inl ⟨ad, rfl, h⟩)
          · exact .inr (.inr ⟨ad, rfl, h, by omega⟩)
      rcases hcs with ⟨rfl, rfl, hl0⟩ | hcs
      · obtain rfl := List.eq_nil_of_length_eq_zero hl0
        clear hl0
        go_wp2
        refine wp_region_S (fun _ => False) [(0, true), (1, true), (2, true), (3, true), (4, true), (5, true), (6, true), (7, true), (8, true), (9, true), (10, true), (11, true)] (by kernel_rfl) (by kernel_rfl) ?_
        iterate 5 (
          refine rp_val (v := ?_) rfl (fun _ _ _ h => h) rfl (fun w' hG => ?_) ?_
          rotate_left
          · clear hG
            go_simp
            try with_reducible rfl
          simp only [Act.put, List.setIfInBounds_toArray, List.set_cons_zero, List.set_cons_succ])
        iterate 6 (
          refine rp_skip rfl (fun _ _ _ h => h) rfl ?_
          simp only [Act.put, List.setIfInBounds_toArray, List.set_cons_zero, List.set_cons_succ])
        iterate 1 (
          refine rp_val (v := ?_) rfl (fun _ _ _ h => h) rfl (fun w' hG => ?_) ?_
          rotate_left
          · clear hG
            go_simp
            try with_reducible rfl
          simp only [Act.put, List.setIfInBounds_toArray, List.set_cons_zero, List.set_cons_succ])
        refine rp_done fun w4 hG4 => ?_
        have Hg4 := Lib.hid (hg.out.trans hG4)
        clear hG4
        go_wp2
        refine wp_region_S (fun _ => False) [(0, true), (1, true), (2, true), (3, true), (4, true), (5, true), (6, true), (7, true), (8, true), (9, true), (10, true), (11, true)] (by kernel_rfl) (by kernel_rfl) ?_
        iterate 5 (
          refine rp_val (v := ?_) rfl (fun _ _ _ h => h) rfl (fun w' hG => ?_) ?_
          rotate_left
          · clear hG
            go_simp
            try with_reducible rfl
          simp only [Act.put, List.setIfInBounds_toArray, List.set_cons_zero, List.set_cons_succ])
        iterate 6 (
          refine rp_skip rfl (fun _ _ _ h => h) rfl ?_
          simp only [Act.put, List.setIfInBounds_toArray, List.set_cons_zero, List.set_cons_succ])
        iterate 1 (
          refine rp_val (v := ?_) rfl (fun _ _ _ h => h) rfl (fun w' hG => ?_) ?_
          rotate_left
          · clear hG
            go_simp
            try with_reducible rfl
          simp only [Act.put, List.setIfInBounds_toArray, List.set_cons_zero, List.set_cons_succ])
        refine rp_done fun wn hG4 => ?_
        replace Hg4 := Lib.hid (Hg4.out.trans hG4)
        clear hG4
        have Hg40 := Lib.hid (((Kp.refl _ w).alloc _).trans Hg4.out)
        have Hnil := Lib.hid (Own.nil encR 2 41 wn w.heap.size)
        go_wp2_with (first | (at_builtin; refine wpl_appendN (l := ([] : List Rule) ++ [r]) (m := []) (base := w.heap.size) rfl encR_ok elemR _ _ rfl rfl Hown2.out (0) _ (1) rfl rfl (At.nil _ _ _ _) rfl (by omega) Hg6.out.size ?_; intro A3 c3 w7 hown3 hc3 hm3 hk3 hb3; clear hb3; have Hown3 := Lib.hid hown3; have Hg7 := Lib.hid (Gr.kp Hg6.out hk3 (fun i h1 h2 => by have := (Own.lt Hown2.out h2).1; omega)); have Hc3 := Lib.hid hc3; have Hm3 := Lib.hid hm3; clear hown3 hk3 hc3 hm3) | (at_builtin; refine wpl_appendN (l := ([] : List Rule)) (m := [r]) (base := w.heap.size) rfl encR_ok elemR _ _ rfl rfl (Hown1.out.gr ((Kp.refl _ _).alloc _)) 1 _ (1) rfl rfl (At.of_blk encR_ok (Blk.new w5 41 #[.string (B r.1), .string (B r.2)])) rfl (by omega) (Hg5.out.alloc _).size ?_; intro A2 c2 w6 hown2 hc2 hm2 hk2 hb2; clear hb2 hc2 hm2 q5; have Hown2 := Lib.hid hown2; have Hg6 := Lib.hid (Gr.kp (Hg5.out.alloc _) hk2 (fun i h1 h2 => by have := (Own.lt Hown1.out h2).1; omega)); clear hown2 hk2) | (at_builtin; refine wpl_appendN (l := []) (m := ([] : List Rule)) (v := .slice none 0 0) (base := w.heap.size) rfl encR_ok elemR _ _ rfl rfl Hnil.out (0) _ (0) rfl rfl (At.nil _ _ _ _) rfl (by omega) Hg40.out.size ?_; intro A1 c1 w5 hown1 hc1 hm1 hk1 hb1; rw [List.nil_append] at hown1; clear hc1 hm1 hb1; have Hown1 := Lib.hid hown1; have Hg45 : Hid (Gr wn w5) := Lib.hid (Gr.kp (Kp.refl (fun _ => False) wn) hk1 (fun i h1 h2 => by cases h2)); have Hg5 := Lib.hid (Hg40.out.trans Hg45.out); have q5 := (hrb.out.gr (Hg4.out.trans Hg45.out)).two; clear hown1 hk1))
        go_ret
        have e := Hfin.out
        exact ⟨A3, c3, by rw [e]; rfl, by rw [e]; exact Hc3.out, Hm3.out, Own.none0 Hown3.out, Own.at_ (base := w.heap.size) encR_ok (by rw [e]; exact Hown3.out), Hg7.out⟩
      rcases hcs with ⟨ad, rfl, rfl⟩ | ⟨ad, rfl, hcn, hcl⟩
      all_goals
        go_wp2
        refine wp_region_S (fun _ => False) [(0, true), (1, true), (2, true), (3, true), (4, true), (5, true), (6, true), (7, true), (8, true), (9, true), (10, true), (11, true)] (by kernel_rfl) (by kernel_rfl) ?_
        iterate 5 (
          refine rp_val (v := ?_) rfl (fun _ _ _ h => h) rfl (fun w' hG => ?_) ?_
          rotate_left
          · clear hG
            go_simp
            try with_reducible rfl
          simp only [Act.put, List.setIfInBounds_toArray, List.set_cons_zero, List.set_cons_succ])
        iterate 6 (
          refine rp_skip rfl (fun _ _ _ h => h) rfl ?_
          simp only [Act.put, List.setIfInBounds_toArray, List.set_cons_zero, List.set_cons_succ])
        iterate 1 (
          refine rp_val (v := ?_) rfl (fun _ _ _ h => h) rfl (fun w' hG => ?_) ?_
          rotate_left
          · clear hG
            go_simp
            try with_reducible rfl
          simp only [Act.put, List.setIfInBounds_toArray, List.set_cons_zero, List.set_cons_succ])
        refine rp_done fun w4 hG4 => ?_
        have Hg4 := Lib.hid (hg.out.trans hG4)
        clear hG4
        go_wp2
        refine wp_region_S (fun _ => False) [(0, true), (1, true), (2, true), (3, true), (4, true), (5, true), (6, true), (7, true), (8, true), (9, true), (10, true), (11, true)] (by kernel_rfl) (by kernel_rfl) ?_
        iterate 5 (
          refine rp_val (v := ?_) rfl (fun _ _ _ h => h) rfl (fun w' hG => ?_) ?_
          rotate_left
          · clear hG
            go_simp
            try with_reducible rfl
          simp only [Act.put, List.setIfInBounds_toArray, List.set_cons_zero, List.set_cons_succ])
        iterate 6 (
          refine rp_skip rfl (fun _ _ _ h => h) rfl ?_
          simp only [Act.put, List.setIfInBounds_toArray, List.set_cons_zero, List.set_cons_succ])
        iterate 1 (
          refine rp_val (v := ?_) rfl (fun _ _ _ h => h) rfl (fun w' hG => ?_) ?_
          rotate_left
          · clear hG
            go_simp
            try with_reducible rfl
          simp only [Act.put, List.setIfInBounds_toArray, List.set_cons_zero, List.set_cons_succ])
        refine rp_done fun wn hG4 => ?_
        replace Hg4 := Lib.hid (Hg4.out.trans hG4)
        clear hG4
        have Hg40 := Lib.hid (((Kp.refl _ w).alloc _).trans Hg4.out)
        have Hnil := Lib.hid (Own.nil encR 2 41 wn w.heap.size)
        go_wp2_with (first | (at_builtin; refine wpl_appendN (l := l.take l.length ++ [r]) (m := []) (base := w.heap.size) rfl encR_ok elemR _ _ rfl rfl Hown2.out (0) _ (l.length + 1) rfl rfl (At.nil _ _ _ _) Hln3.out (by omega) Hg6.out.size ?_; intro A3 c3 w7 hown3 hc3 hm3 hk3 hb3; clear hb3; have Hown3 := Lib.hid hown3; have Hg7 := Lib.hid (Gr.kp Hg6.out hk3 (fun i h1 h2 => by have := (Own.lt Hown2.out h2).1; omega)); have Hc3 := Lib.hid hc3; have Hm3 := Lib.hid hm3; clear hown3 hk3 hc3 hm3) | (at_builtin; refine wpl_appendN (l := l.take l.length) (m := [r]) (base := w.heap.size) rfl encR_ok elemR _ _ rfl rfl (Hown1.out.gr ((Kp.refl _ _).alloc _)) 1 _ (l.length + 1) rfl rfl (At.of_blk encR_ok (Blk.new w5 41 #[.string (B r.1), .string (B r.2)])) (by rw [List.length_append, Hl1.out]; rfl) (by omega) (Hg5.out.alloc _).size ?_; intro A2 c2 w6 hown2 hc2 hm2 hk2 hb2; clear hb2 hc2 hm2 q5; have Hown2 := Lib.hid hown2; have Hg6 := Lib.hid (Gr.kp (Hg5.out.alloc _) hk2 (fun i h1 h2 => by have := (Own.lt Hown1.out h2).1; omega)); clear hown2 hk2) | (at_builtin; refine wpl_appendN (l := []) (m := l.take l.length) (v := .slice none 0 0) (base := w.heap.size) rfl encR_ok elemR _ _ rfl rfl Hnil.out (l.length) _ (l.length) Hl1.out rfl (RAt.take (Hl.out.gr Hg40.out) l.length) (by rw [List.nil_append]; exact Hl1.out) (by omega) Hg40.out.size ?_; intro A1 c1 w5 hown1 hc1 hm1 hk1 hb1; rw [List.nil_append] at hown1; clear hc1 hm1 hb1; have Hown1 := Lib.hid hown1; have Hg45 : Hid (Gr wn w5) := Lib.hid (Gr.kp (Kp.refl (fun _ => False) wn) hk1 (fun i h1 h2 => by cases h2)); have Hg5 := Lib.hid (Hg40.out.trans Hg45.out); have q5 := (hrb.out.gr (Hg4.out.trans Hg45.out)).two; clear hown1 hk1))
        go_ret
        have e := Hfin.out
        have e2 := congrArg List.length e
        rw [show (l ++ [r]).length = l.length + 1 from by simp] at e2
        exact ⟨A3, c3, by rw [e2]; rfl, by rw [e2]; exact Hc3.out, Hm3.out, Own.none0 Hown3.out, Own.at_ (base := w.heap.size) encR_ok (by rw [e2, e]; have := Hown3.out; rw [List.take_length, List.append_nil] at this; exact this), Hg7.out⟩
end Go.Proofs.YtffghamcggadcaaGreat
