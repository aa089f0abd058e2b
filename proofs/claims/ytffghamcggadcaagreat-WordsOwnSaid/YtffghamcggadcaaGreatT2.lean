/- The walk of the statement WordsOwn. -/
import Derived.Test.YtffghamcggadcaaGreatT1
import Derived.Test.YtffghamcggadcaaGreatL4
namespace Go.Proofs.YtffghamcggadcaaGreat
open Go.RowKit Go.Maps
set_option linter.unusedVariables false
set_option linter.unusedSimpArgs false
attribute [local go_sem] B_size B_toList B_append B_extract B_get take_rest
theorem TidyV.some_own {base : Nat} {l : List Rule} {e : Ending} {w' : World} (h : TidyV base l e w') : ∃ v k x, e = .returned (.tuple #[v, .int .i64 k]) ∧ OwnR w' base v x ∧ (isSystem l = true → (tidy l = none → k = 5) ∧ ∀ m, tidy l = some m → k = 0 ∧ x = m) := by
  unfold TidyV at h
  by_cases hs : isSystem l = true
  · rw [if_pos hs] at h
    cases ht : tidy l with
    | none =>
      rw [ht] at h
      exact ⟨_, 5, [], h, Own.nil _ _ _ _ _, fun _ => ⟨fun _ => rfl, (fun m hm => nomatch hm)⟩⟩
    | some m =>
      rw [ht] at h
      obtain ⟨v, rfl, hown⟩ := h
      exact ⟨v, 0, m, rfl, hown, fun _ => ⟨(fun h => nomatch h), fun m' hm => by injection hm with hm; exact ⟨rfl, hm⟩⟩⟩
  · rw [if_neg hs] at h
    exact ⟨_, 2, [], h, Own.nil _ _ _ _ _, fun h' => absurd h' hs⟩
theorem CompleteV.some_own {base : Nat} {l : List Rule} {k : Int} {e : Ending} {w' : World} (h : CompleteV base l k e w') : ∃ v b n x, e = .returned (.tuple #[v, .bool b, .int .i64 n]) ∧ OwnR w' base v x := by
  unfold CompleteV at h
  by_cases hs : areEqs l k = true
  · rw [if_pos hs] at h
    cases ht : complete l k.toNat with
    | none => rw [ht] at h; exact ⟨_, _, _, [], h, Own.nil _ _ _ _ _⟩
    | some p =>
      obtain ⟨m, b⟩ := p
      rw [ht] at h
      obtain ⟨v, rfl, hown⟩ := h
      exact ⟨v, b, 0, m, rfl, hown⟩
  · rw [if_neg hs] at h
    exact ⟨_, _, _, [], h, Own.nil _ _ _ _ _⟩
/-- an own row of n elements, whatever they are -/
def Any2 (ty : TypeId) (w : World) (base : Nat) (v : Value) (n : Nat) : Prop := ∃ y : List Rule, y.length = n ∧ Own encR 2 ty w base v y
theorem Any2.cell {ty : TypeId} {w : World} {base n c : Nat} {A : Option Addr} (h : Any2 ty w base (.slice A n c) n) {i : Nat} (hi : i < n) :
    ∃ (g : Nat) (u1 u2 : Value), A = some ⟨g, 0, none⟩ ∧ w.cell? ⟨g, i * 2, none⟩ = some u1 ∧ w.cell? ⟨g, i * 2 + 1, none⟩ = some u2 ∧ w.frozen? ⟨g, i * 2, none⟩ = false ∧ w.frozen? ⟨g, i * 2 + 1, none⟩ = false ∧
      ∀ x1 x2 : Str, Any2 ty ((w.setCell ⟨g, i * 2, none⟩ (.string (B x1))).setCell ⟨g, i * 2 + 1, none⟩ (.string (B x2))) base (.slice A n c) n ∧ base ≤ g := by
  obtain ⟨y, hy, hown⟩ := h
  have hg : ∃ g, A = some ⟨g, 0, none⟩ ∧ base ≤ g := by
    rcases hown.2 with ⟨hv, _⟩ | ⟨g, cap, cur, hv, hb, _⟩
    · injection hv; omega
    · injection hv with h1; exact ⟨g, h1, hb⟩
  obtain ⟨g, rfl, hb⟩ := hg
  obtain ⟨h0, h1, f0, f1⟩ := hown.cellG (show i < y.length by omega)
  exact ⟨g, _, _, rfl, h0, h1, f0, f1, fun x1 x2 => ⟨⟨y.set i (x1, x2), by simpa using hy, hown.setG (show i < y.length by omega) (x1, x2)⟩, hb⟩⟩
theorem Any2.kp {S : Nat → Prop} {ty : TypeId} {w w' : World} {base n : Nat} {v : Value} (h : Any2 ty w base v n) (hk : Kp S w w') (hs : ∀ b, v.ownBlock = some b → ¬ S b) : Any2 ty w' base v n := by
  obtain ⟨y, hy, hown⟩ := h
  exact ⟨y, hy, hown.kp hk hs⟩
set_option maxHeartbeats 8000000 in
set_option maxRecDepth 20000 in
theorem WordsOwn_any (l : List Rule) (A : Option Addr) (c : Nat) (w : World) (hn : l.length ≤ 9223372036854775807) (hL : ∀ r ∈ l, r.1.length ≤ 9223372036854775807 ∧ r.2.length ≤ 9223372036854775807) (hl : RAt w A l) (hz : 0 < w.heap.size) (hg : Glob w) :
    Calls Tryz.prog 4 #[.slice A l.length c] w fun e w' => e = .returned (.bool true) ∧ Gr w w' := by
  have Hl := Lib.hid hl
  have HL := Lib.hid hL
  have Hg := Lib.hid hg
  clear hl hL hg
  go_enter Tryz.func4, Tryz.ntmps4
  go_wp2_with fail
  refine (tame_any l 6 6 3 A c w (by omega) (by omega) (by omega) (by omega) hn HL.out Hl.out).mono ?_
  rintro e w1 ⟨v1, rfl, hown1, hg1⟩
  have Hg1 := Lib.hid hg1
  obtain ⟨A1, c1, rfl, hlc1, hcm1⟩ := Own.slice hown1
  have Hat1 := Lib.hid (Own.at_ encR_ok hown1)
  have htl := tameS_len l 6 6 3
  have htL := tameS_lens l 6 6 3
  have hteq := Lib.hid (tameS_isEq l 6 6 3 (by omega) (by omega) (by omega))
  clear hown1 hg1 hlc1 hcm1
  generalize tameS l 6 6 3 = t0 at *
  have HtL := Lib.hid htL
  clear htL
  go_wp2_with fail
  refine (oriented_any t0 A1 c1 _ (by omega) (fun r hr => by have := HtL.out r hr; omega) Hat1.out).mono ?_
  rintro e w2 ⟨v2, rfl, hown2, hg2⟩
  have Hg2 := Lib.hid (Hg1.out.trans hg2)
  obtain ⟨A2, c2, rfl, hlc2, hcm2⟩ := Own.slice hown2
  have Hat2 := Lib.hid (Own.at_ encR_ok hown2)
  have hml := Nat.le_trans (oriented_len t0) htl
  have HmL := Lib.hid (oriented_lens (M := 6) HtL.out)
  have Hsys := Lib.hid (oriented_system hteq.out (by omega))
  clear hown2 hg2 hlc2 hcm2
  generalize oriented t0 = m at *
  have Hlens := Lib.hid (show Lens m from fun r hr => by have := HmL.out r hr; omega)
  have Hcut := Lib.hid (cutRules_same (l := m) (most := 6) hml (by omega) (fun r hr => by have := HmL.out r hr; omega))
  go_wp2_with fail
  refine (rules_any m 6 A2 c2 _ (by omega) (by omega) (fun r hr => by have := HmL.out r hr; omega) Hat2.out).mono ?_
  rintro e w4 ⟨v4, rfl, hown4, hg4⟩
  rw [Hcut.out] at hown4
  have Hg4 := Lib.hid (Hg2.out.trans hg4)
  obtain ⟨A4, c4, rfl, hlc4, hcm4⟩ := Own.slice hown4
  have Hat4 := Lib.hid (Own.at_ encR_ok hown4)
  have Hat24 := Lib.hid (Hat2.out.gr hg4)
  clear hown4 hg4 hlc4 hcm4
  go_wp2_with fail
  refine (Pairs_any m A2 c2 _ (by omega) Hlens.out Hat24.out).mono ?_
  rintro e w5 ⟨hp, hg5⟩
  unfold PairsV at hp
  rw [if_pos Hsys.out] at hp
  obtain ⟨v5, rfl, hown5⟩ := hp
  obtain ⟨A5, c5, rfl, hlc5, hcm5⟩ := Own.slice hown5
  have Hown5 := Lib.hid (show Any2 39 w5 w4.heap.size (.slice A5 (pairs m).length c5) (pairs m).length from ⟨_, rfl, hown5⟩)
  have Hb5 := Lib.hid (fun b (h : (Value.slice A5 (pairs m).length c5).ownBlock = some b) => (Own.lt hown5 h).2)
  have Hg5 := Lib.hid hg5
  have hpl : (pairs m).length ≤ 1000000 := by have := pairsTo_len m m.length (by omega) (isSystem_tame Hsys.out); rw [pairsTo_all] at this; omega
  clear hown5 hg5 hlc5 hcm5
  generalize (pairs m).length = np at *
  go_wp2_with fail
  refine (Tidy_any m A2 c2 _ (by omega) Hlens.out (Hat24.out.gr Hg5.out) (by have := (Hg4.out.trans Hg5.out).size; omega) (Gr.glob Hg.out (Hg4.out.trans Hg5.out))).mono ?_
  rintro e w6 ⟨ht, hg6⟩
  obtain ⟨v6, k6, x6, rfl, hown6, _⟩ := ht.some_own
  obtain ⟨A6, c6, rfl, hlc6, hcm6⟩ := Own.slice hown6
  have Hown6 := Lib.hid (show Any2 41 w6 w5.heap.size (.slice A6 x6.length c6) x6.length from ⟨_, rfl, hown6⟩)
  have Hb6 := Lib.hid (fun b (h : (Value.slice A6 x6.length c6).ownBlock = some b) => (Own.lt hown6 h).2)
  have hxl6 : x6.length ≤ 9223372036854775807 := by simp only [maxLen] at hcm6; omega
  have Hg6 := Lib.hid hg6
  clear hown6 hg6 hlc6 hcm6 ht
  generalize x6.length = n6 at *
  go_wp2_with fail
  refine (Complete_any m 2 A2 c2 _ (by omega) (by omega) Hlens.out (Hat24.out.gr (Hg5.out.trans Hg6.out)) (by have := (Hg4.out.trans (Hg5.out.trans Hg6.out)).size; omega) (Gr.glob Hg.out (Hg4.out.trans (Hg5.out.trans Hg6.out)))).mono ?_
  rintro e w7 ⟨hc, hg7⟩
  obtain ⟨v7, b7, k7, x7, rfl, hown7⟩ := hc.some_own
  obtain ⟨A7, c7, rfl, hlc7, hcm7⟩ := Own.slice hown7
  have Hown7 := Lib.hid (show Any2 41 w7 w6.heap.size (.slice A7 x7.length c7) x7.length from ⟨_, rfl, hown7⟩)
  have hxl7 : x7.length ≤ 9223372036854775807 := by simp only [maxLen] at hcm7; omega
  have Hg7 := Lib.hid hg7
  clear hown7 hg7 hlc7 hcm7 hc
  generalize x7.length = n7 at *
  have Hown57 := Lib.hid (Hown5.out.kp (Hg6.out.trans Hg7.out) (fun _ _ h => h))
  have Hown67 := Lib.hid (Hown6.out.kp Hg7.out (fun _ _ h => h))
  have Hg47 := Lib.hid ((Hg5.out.trans Hg6.out).trans Hg7.out)
  have hs45 := Hg5.out.size
  have hs56 := Hg6.out.size
  clear Hown5 Hown6 Hg5 Hg6 Hg7
  go_wp2
  go_loopw [12] (fun vi wr => ∃ i : Nat, i ≤ np ∧ vi = .int .i64 i ∧ Hid (Any2 39 wr w4.heap.size (.slice A5 np c5) np) ∧ Hid (Any2 41 wr w5.heap.size (.slice A6 n6 c6) n6) ∧ Hid (Any2 41 wr w6.heap.size (.slice A7 n7 c7) n7) ∧ Hid (Gr w4 wr)) (fun vi _ => np - (intOf vi).toNat)
  case atStart => exact ⟨0, by omega, rfl, Hown57, Hown67, Hown7, Hg47⟩
  case round =>
    clear Hown57 Hown67 Hown7 Hg47
    obtain ⟨i, hi, rfl, ho5, ho6, ho7, hg8⟩ := hrel
    by_cases hlt : i < np
    · obtain ⟨g, u1, u2, rfl, k0, k1, f0, f1, hset⟩ := ho5.out.cell hlt
      have Hset := Lib.hid (hset [120] [121])
      have hgb := Hb5.out g rfl
      clear hset
      go_wp2
      refine ⟨⟨i + 1, by omega, by go_num, Lib.hid Hset.out.1, Lib.hid (ho6.out.kp (Kp.set2 _ _ _ _ _ _) (fun b hb e => ?_)), Lib.hid (ho7.out.kp (Kp.set2 _ _ _ _ _ _) (fun b hb e => ?_)), Lib.hid (Gr.kp hg8.out (Kp.set2 _ _ _ _ _ _) (fun k h1 h2 => by have := Hset.out.2; omega))⟩, by simp [intOf]; omega⟩
      · obtain ⟨y, _, hy⟩ := ho6.out
        have := (Own.lt hy hb).1
        omega
      · obtain ⟨y, _, hy⟩ := ho7.out
        have := (Own.lt hy hb).1
        omega
    · go_wp2
      obtain ⟨wo, rfl⟩ : ∃ wo : World, wo = wr := ⟨_, rfl⟩
      go_loopw [13] (fun vi wr => ∃ i : Nat, i ≤ n6 ∧ vi = .int .i64 i ∧ Hid (Any2 41 wr w5.heap.size (.slice A6 n6 c6) n6) ∧ Hid (Any2 41 wr w6.heap.size (.slice A7 n7 c7) n7) ∧ Hid (Gr w4 wr)) (fun vi _ => n6 - (intOf vi).toNat)
      case atStart => exact ⟨0, by omega, rfl, ho6, ho7, hg8⟩
      case round =>
        clear ho5 ho6 ho7 hg8
        obtain ⟨i2, hi2, rfl, ho6, ho7, hg8⟩ := hrel
        by_cases hlt : i2 < n6
        · obtain ⟨g, u1, u2, rfl, k0, k1, f0, f1, hset⟩ := ho6.out.cell hlt
          have Hset := Lib.hid (hset [120] [])
          have hgb := Hb6.out g rfl
          clear hset
          go_wp2
          refine ⟨⟨i2 + 1, by omega, by go_num, Lib.hid Hset.out.1, Lib.hid (ho7.out.kp (Kp.set2 _ _ _ _ _ _) (fun b hb e => ?_)), Lib.hid (Gr.kp hg8.out (Kp.set2 _ _ _ _ _ _) (fun k h1 h2 => by have := Hset.out.2; omega))⟩, by simp [intOf]; omega⟩
          obtain ⟨y, _, hy⟩ := ho7.out
          have := (Own.lt hy hb).1
          omega
        · go_wp2
          obtain ⟨wq, rfl⟩ : ∃ wq : World, wq = wr := ⟨_, rfl⟩
          go_loopw [14] (fun vi wr => ∃ i : Nat, i ≤ n7 ∧ vi = .int .i64 i ∧ Hid (Any2 41 wr w6.heap.size (.slice A7 n7 c7) n7) ∧ Hid (Gr w4 wr)) (fun vi _ => n7 - (intOf vi).toNat)
          case atStart => exact ⟨0, by omega, rfl, ho7, hg8⟩
          case round =>
            clear ho6 ho7 hg8
            obtain ⟨i3, hi3, rfl, ho7, hg8⟩ := hrel
            by_cases hlt : i3 < n7
            · obtain ⟨g, u1, u2, rfl, k0, k1, f0, f1, hset⟩ := ho7.out.cell hlt
              have Hset := Lib.hid (hset [120] [])
              clear hset
              go_wp2
              exact ⟨⟨i3 + 1, by omega, by go_num, Lib.hid Hset.out.1, Lib.hid (Gr.kp hg8.out (Kp.set2 _ _ _ _ _ _) (fun k h1 h2 => by have := Hset.out.2; omega))⟩, by simp [intOf]; omega⟩
            · have Hgw := Lib.hid (Hg4.out.trans hg8.out)
              have Hat2r := Lib.hid (Hat24.out.gr hg8.out)
              have Hat4r := Lib.hid (Hat4.out.gr hg8.out)
              clear ho7 hg8
              go_wp2_with fail
              refine (Tidy_any m A2 c2 _ (by omega) Hlens.out Hat2r.out (by have := Hgw.out.size; omega) (Gr.glob Hg.out Hgw.out)).mono ?_
              rintro e w8 ⟨ht, hg8⟩
              obtain ⟨v8, k8, x8, rfl, hown8, hx8⟩ := ht.some_own
              have Hx8 := Lib.hid (hx8 Hsys.out)
              obtain ⟨A8, c8, rfl, hlc8, hcm8⟩ := Own.slice hown8
              have Hat8 := Lib.hid (Own.at_ encR_ok hown8)
              have Hg8 := Lib.hid (Hgw.out.trans hg8)
              have Hat28 := Lib.hid (Hat2r.out.gr hg8)
              have Hat48 := Lib.hid (Hat4r.out.gr hg8)
              clear hown8 hg8 hlc8 hcm8 ht hx8
              have Htame := Lib.hid (isSystem_tame Hsys.out)
              go_wp2_with fail
              refine (refTidy_any m A4 c4 24 _ (by omega) (by omega) Htame.out Hat48.out).mono ?_
              rintro e w9 ⟨ht9, hg9⟩
              have Hg9 := Lib.hid (Hg8.out.trans hg9)
              have Hat29 := Lib.hid (Hat28.out.gr hg9)
              have Hat49 := Lib.hid (Hat48.out.gr hg9)
              have Hat89 := Lib.hid (Hat8.out.gr hg9)
              clear hg9
              rcases htd : tidy m with _ | x
              · rw [htd] at ht9
                simp only [refTidyV] at ht9
                subst ht9
                obtain rfl := Hx8.out.1 htd
                clear htd
                go_wp2_with fail
                refine (same_any m m A2 A4 c2 c4 _ (by omega) (by omega) Hat29.out Hat49.out).mono ?_
                rintro e w10 ⟨rfl, hg10⟩
                rw [beq_same]
                have Hg10 := Lib.hid (Hg9.out.trans hg10)
                clear hg10
                go_wp2_with fail
                refine (awake_any _ (by have := Hg10.out.size; omega) (Gr.glob Hg.out Hg10.out)).mono ?_
                rintro e w11 ⟨rfl, hg11⟩
                have Hg11 := Lib.hid (Hg10.out.trans hg11)
                clear hg11
                go_wp2
                go_ret
                exact ⟨rfl, Hg11.out⟩
              · rw [htd] at ht9
                simp only [refTidyV] at ht9
                obtain ⟨A9, c9, rfl, hlc9, hcm9, hA9, hat9⟩ := ht9
                have Hat9 := Lib.hid hat9
                have hxl : x.length ≤ 1000 := by have := (tidy_keep Htame.out htd).2.2.1; omega
                obtain ⟨rfl, rfl⟩ := Hx8.out.2 x htd
                clear htd hlc9 hcm9 hA9 hat9
                go_wp2_with fail
                refine (same_any m m A2 A4 c2 c4 _ (by omega) (by omega) Hat29.out Hat49.out).mono ?_
                rintro e w10 ⟨rfl, hg10⟩
                rw [beq_same]
                have Hg10 := Lib.hid (Hg9.out.trans hg10)
                have Hat810 := Lib.hid (Hat89.out.gr hg10)
                have Hat910 := Lib.hid (Hat9.out.gr hg10)
                clear hg10
                go_wp2_with fail
                refine (same_any x8 x8 A8 A9 c8 c9 _ (by omega) (by omega) Hat810.out Hat910.out).mono ?_
                rintro e w11 ⟨rfl, hg11⟩
                rw [beq_same]
                have Hg11 := Lib.hid (Hg10.out.trans hg11)
                clear hg11
                go_wp2_with fail
                refine (awake_any _ (by have := Hg11.out.size; omega) (Gr.glob Hg.out Hg11.out)).mono ?_
                rintro e w12 ⟨rfl, hg12⟩
                have Hg12 := Lib.hid (Hg11.out.trans hg12)
                clear hg12
                go_wp2
                go_ret
                exact ⟨rfl, Hg12.out⟩
end Go.Proofs.YtffghamcggadcaaGreat
