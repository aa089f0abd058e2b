/- Contracts: complete, Complete, Equal. -/
import Derived.Test.YtffghamcggadcaaCo
namespace Go.Proofs.Ytffghamcggadcaa
open Go.RowKit Go.Maps
set_option linter.unusedVariables false
set_option linter.unusedSimpArgs false
attribute [local go_sem] B_size B_toList B_append B_extract B_get take_rest
theorem fresh_tame {l : List Rule} {M : Nat} (hd : Dec l) : ∀ (ps : List (Str × Str)) (out : List Rule), (∀ p ∈ ps, p.1.length ≤ M ∧ p.2.length ≤ M) → fresh l ps = some out → Tame M out
  | [], out, _, h => by
    unfold fresh at h
    cases h
    intro x hx
    cases hx
  | p :: ps, out, hp, h => by
    unfold fresh at h
    rcases hf : forms l p with _ | ⟨a, b⟩
    · rw [hf] at h; cases h
    · rw [hf] at h
      simp only at h
      rcases hr : fresh l ps with _ | more
      · rw [hr] at h; cases h
      · rw [hr] at h
        simp only [Option.some.injEq] at h
        have ih := fresh_tame hd ps more (fun q hq => hp q (List.mem_cons_of_mem _ hq)) hr
        obtain ⟨h1, h2⟩ := forms_le (M := M) hd hf
        obtain ⟨g1, g2⟩ := hp p List.mem_cons_self
        by_cases hab : a = b
        · rw [if_pos hab] at h
          rw [← h]
          exact ih
        · rw [if_neg hab] at h
          rw [← h]
          intro x hx
          rcases List.mem_cons.1 hx with rfl | hx
          · exact directed_len (M := M) (by omega) (by omega)
          · exact ih x hx
theorem fresh_len {l : List Rule} : ∀ (ps : List (Str × Str)) (out : List Rule), fresh l ps = some out → out.length ≤ ps.length
  | [], out, h => by
    unfold fresh at h
    cases h
    simp
  | p :: ps, out, h => by
    unfold fresh at h
    rcases hf : forms l p with _ | ⟨a, b⟩
    · rw [hf] at h; cases h
    · rw [hf] at h
      simp only at h
      rcases hr : fresh l ps with _ | more
      · rw [hr] at h; cases h
      · rw [hr] at h
        simp only [Option.some.injEq] at h
        have ih := fresh_len ps more hr
        rw [← h]
        split <;> simp <;> omega
theorem settle_keep {l x : List Rule} {M : Nat} (ht : Tame M l) (h : settle l = some x) : Sorted x ∧ Tame 24 x ∧ x.length ≤ 64 ∧ wrong x = none ∧ fits x = true := by
  by_cases h4 : 400 < l.length
  · unfold settle at h
    rw [if_pos h4] at h
    cases h
  · rw [settle_eq h4] at h
    rcases htd : tidy l with _ | m
    · rw [htd] at h; cases h
    · rw [htd] at h
      simp only at h
      rcases hf : fits m with _ | _
      · rw [hf] at h; simp at h
      · rw [hf] at h
        simp at h
        subst h
        obtain ⟨a, b, _, d⟩ := tidy_keep ht htd
        have hf' := hf
        unfold fits at hf'
        simp only [Bool.and_eq_true, decide_eq_true_eq, List.all_eq_true] at hf'
        exact ⟨a, fun y hy => ⟨(b y hy).1, (hf'.2 y hy).1⟩, hf'.1, d, hf⟩
theorem oriented_tame {l : List Rule} {M : Nat} (h : ∀ r ∈ l, r.1.length ≤ M ∧ r.2.length ≤ M) : Tame M (oriented l) := by
  intro x hx
  unfold oriented at hx
  obtain ⟨r, hr, rfl⟩ := List.mem_map.1 hx
  have := h r (List.mem_filter.1 hr).1
  exact directed_len (M := M) this.1 this.2
def completeV (base : Nat) (o : Option (List Rule × Bool)) (e : Ending) (w' : World) : Prop := match o with
  | none => ∃ v b, e = .returned (.tuple #[v, .bool b, .bool false])
  | some (m, b) => ∃ v, e = .returned (.tuple #[v, .bool b, .bool true]) ∧ OwnR w' base v m
theorem oriented_take_succ (l : List Rule) (n : Nat) (h : n < l.length) : oriented (l.take (n + 1)) = oriented (l.take n) ++ if l[n].1 = l[n].2 then [] else [directed l[n].1 l[n].2] := by
  unfold oriented
  rw [List.take_succ_eq_append_getElem h, List.filter_append, List.map_append]
  congr 1
  by_cases e : l[n].1 = l[n].2
  · rw [if_pos e, List.filter_cons_of_neg (by simp [e])]; rfl
  · rw [if_neg e, List.filter_cons_of_pos (by simpa using e)]; rfl
set_option maxHeartbeats 4000000 in
set_option maxRecDepth 20000 in
theorem complete_any (l : List Rule) (k : Nat) (A : Option Addr) (c : Nat) (w : World) (hn : l.length ≤ 64) (hk12 : k ≤ 12) (hL : ∀ r ∈ l, r.1.length ≤ 24 ∧ r.2.length ≤ 24) (hl : RAt w A l) (hz : 0 < w.heap.size) (hg : Glob w) :
    Calls Try.prog 24 #[.slice A l.length c, .int .i64 k] w fun e w' => completeV w.heap.size (complete l k) e w' ∧ Gr w w' := by
  have Hl := Lib.hid hl
  have HL := Lib.hid hL
  have Hg := Lib.hid hg
  clear hl hL hg
  go_enter Try.func24, Try.ntmps24
  go_wp2_with fail
  go_loopw [7, 15] (fun vo vi wr => ∃ (i : Nat) (u : Value), u = vo ∧ i ≤ l.length ∧ vi = .int .i64 i ∧ Hid (OwnR wr w.heap.size vo (oriented (l.take i))) ∧ Hid (Gr w wr)) (fun _ vi _ => l.length - (intOf vi).toNat)
  case atStart => exact ⟨0, _, rfl, by omega, rfl, Own.nil _ _ _ _ _, Kp.refl _ _⟩
  case round =>
    obtain ⟨i, u, hu, hi, rfl, hown, hgr⟩ := hrel
    subst hu
    by_cases hlt : i < l.length
    · obtain ⟨ad, rfl, h0, h1⟩ := RAt.get (Hl.out.gr hgr.out) hlt
      have hli := HL.out l[i] (List.getElem_mem hlt)
      have hlen : (oriented (l.take i)).length ≤ l.length := by
        unfold oriented
        rw [List.length_map]
        refine Nat.le_trans (List.length_filter_le _ _) ?_
        simp
        omega
      by_cases he : l[i].1 = l[i].2
      · have Ho := Lib.hid (oriented_take_succ l i hlt)
        rw [if_pos he] at Ho
        have hb : (l[i].1 == l[i].2) = true := by simp [he]
        have He := Lib.hid he
        clear he
        go_wp2_with fail
        refine ⟨⟨i + 1, _, rfl, by omega, by go_num, ?_, hgr.out.alloc _⟩, by simp [intOf]; omega⟩
        rw [Ho.out, List.append_nil]
        exact hown.out.gr ((Kp.refl _ _).alloc _)
      · have Ho := Lib.hid (oriented_take_succ l i hlt)
        rw [if_neg he] at Ho
        have hb : (l[i].1 == l[i].2) = false := by simpa using he
        have He := Lib.hid he
        clear he
        go_wp2_with fail
        refine (directed_any l[i].1 l[i].2 _ (by omega) (by omega)).mono ?_
        rintro e w5 ⟨rfl, hg5⟩
        have hb6 := Blk.new w5 24 #[.string (B (directed l[i].1 l[i].2).1), .string (B (directed l[i].1 l[i].2).2)]
        have hgs6 := Lib.hid (((((Kp.refl (fun _ => False) wr).alloc (.cells #[.string (B l[i].1), .string (B l[i].2)] 24)).trans hg5).alloc (.cells #[.string (B (directed l[i].1 l[i].2).1), .string (B (directed l[i].1 l[i].2).2)] 24)))
        have Hb6 := Lib.hid (At.of_blk (l := [directed l[i].1 l[i].2]) encR_ok hb6)
        have hown6 := Lib.hid (hown.out.gr hgs6.out)
        have Hg6 := Lib.hid (hgr.out.trans hgs6.out)
        clear hb6 hg5
        go_wp2_with (at_builtin; refine wpl_append (l := oriented (l.take i)) (m := [directed l[i].1 l[i].2]) (v := u) (base := w.heap.size) rfl encR_ok elemR _ _ rfl rfl hown6.out 1 rfl Hb6.out (by simp only [List.length_cons, List.length_nil]; omega) Hg6.out.size ?_; intro v7 w7 hown7 hk7 hb7; replace hown7 := Lib.hid hown7; replace hk7 := Lib.hid hk7; clear hb7)
        refine ⟨⟨i + 1, _, rfl, by omega, by go_num, ?_, ?_⟩, by simp [intOf]; omega⟩
        · rw [Ho.out]
          exact hown7.out
        · exact Gr.kp Hg6.out hk7.out (fun k h1 h2 => by have := (Own.lt hown6.out h2).1; omega)
    · have hown' : OwnR wr w.heap.size u (oriented l) := by
        have h := hown.out
        rw [List.take_of_length_le (by omega)] at h
        exact h
      have Hta := Lib.hid (oriented_tame (M := 24) HL.out)
      obtain ⟨A1, c1, rfl, hlc1, hcm1⟩ := Own.slice hown'
      have Hown := Lib.hid hown'
      clear hown hown'
      have holen : (oriented l).length ≤ 64 := by
        unfold oriented
        rw [List.length_map]
        exact Nat.le_trans (List.length_filter_le _ _) hn
      have Hce := Lib.hid (show complete l k = match settle (oriented l) with
        | none => none
        | some x => rounds k x from rfl)
      go_wp2_with fail
      refine (settle_any (oriented l) A1 c1 24 wr (by omega) (by omega) Hta.out (Own.at_ encR_ok Hown.out) (by have := hgr.out.size; omega) (Hg.out.kp hgr.out (fun h => h))).mono ?_
      rintro e w2 ⟨hsv, hg2⟩
      have Hg2 := Lib.hid (hgr.out.trans hg2)
      have hstart : ∃ (b : Bool) (u : Value), e = .returned (.tuple #[u, .bool b]) ∧ ((b = false ∧ Hid (complete l k = none)) ∨ (b = true ∧ ∃ cur, Hid (OwnR w2 w.heap.size u cur) ∧ Hid (Tame 24 cur) ∧ cur.length ≤ 64 ∧ Hid (complete l k = rounds k cur))) := by
        rcases hs : settle (oriented l) with _ | m
        · rw [hs] at hsv
          obtain ⟨v, rfl⟩ := hsv
          exact ⟨false, v, rfl, .inl ⟨rfl, by have h := Hce.out; rw [hs] at h; exact h⟩⟩
        · rw [hs] at hsv
          obtain ⟨v, rfl, hown⟩ := hsv
          obtain ⟨_, h2, h3, _⟩ := settle_keep Hta.out hs
          exact ⟨true, v, rfl, .inr ⟨rfl, m, hown.base hgr.out.size, h2, h3, by have h := Hce.out; rw [hs] at h; exact h⟩⟩
      obtain ⟨b, u, rfl, hst⟩ := hstart
      clear hsv hg2
      go_wp2_with fail
      go_loopw [1, 7, 10, 11] (fun vr vl vok _ wr => ∃ (q : Nat) (b : Bool) (u : Value), u = vl ∧ q ≤ 12 ∧ vr = .int .i64 q ∧ vok = .bool b ∧ Hid (Gr w wr) ∧ ((b = false ∧ Hid (complete l k = none)) ∨ (b = true ∧ ∃ cur, Hid (OwnR wr w.heap.size u cur) ∧ Hid (Tame 24 cur) ∧ cur.length ≤ 64 ∧ Hid (complete l k = rounds q cur)))) (fun vr _ _ _ _ => (intOf vr).toNat)
      case atStart => exact ⟨k, b, _, rfl, hk12, rfl, rfl, Hg2, hst⟩
      case round =>
        clear Hg2 hst Hown
        obtain ⟨q, b', u', hu, hq, rfl, rfl, hgr2, hst2⟩ := hrel
        subst hu
        rcases hst2 with ⟨rfl, hnone⟩ | ⟨rfl, cur, hown, hta, hcl, hce⟩
        · go_wp2_with fail
          go_ret3
          refine ⟨?_, hgr2.out⟩
          rw [hnone.out]
          exact ⟨_, _, rfl⟩
        · obtain ⟨A5, c5, rfl, hlc5, hcm5⟩ := Own.slice hown.out
          have Hat5 := Lib.hid (Own.at_ encR_ok hown.out)
          rcases q with _ | q
          · have Hr := Lib.hid (show complete l k = match clash cur with
              | none => none
              | some c => some (cur, c.isNone) from by rw [hce.out]; rfl)
            go_wp2_with fail
            refine (clash_any cur A5 c5 _ hcl hta.out Hat5.out).mono ?_
            rintro e w6 ⟨rfl, hg6⟩
            have Hg6 := Lib.hid hg6
            clear hg6
            rcases hc : clash cur with _ | _ | j
            all_goals
              rw [hc] at Hr
              clear hc
              simp only [clashV]
              go_wp2_with fail
              go_ret3
              refine ⟨?_, hgr2.out.trans Hg6.out⟩
              rw [Hr.out]
            · exact ⟨_, _, rfl⟩
            · exact ⟨_, rfl, hown.out.gr Hg6.out⟩
            · have hj : decide ((j : Int) < 0) = false := by simp
              refine ⟨.slice A5 cur.length c5, ?_, hown.out.gr Hg6.out⟩
              show Ending.returned (.tuple #[.slice A5 cur.length c5, .bool (decide ((j : Int) < 0)), .bool true]) = _
              rw [hj]
              rfl
          · have Hr := Lib.hid (show complete l k = match fresh cur (pairs cur) with
              | none => none
              | some [] => some (cur, true)
              | some more => match settle (cur ++ more) with
                | none => none
                | some x => rounds q x from by rw [hce.out]; rfl)
            have hq1 : IntKind.i64.wrap (((q + 1 : Nat) : Int) - 1) = (q : Int) := (IntWalk.i64_in _ (by omega)).trans (by omega)
            go_wp2_with fail
            refine (round_any cur A5 c5 _ hcl hta.out Hat5.out).mono ?_
            rintro e w6 ⟨hrv, hg6⟩
            have Hg6 := Lib.hid hg6
            clear hg6
            unfold roundV at hrv
            rcases hf : fresh cur (pairs cur) with _ | more
            · rw [hf] at Hr hrv
              simp only at hrv
              subst hrv
              clear hf
              go_wp2_with fail
              go_ret3
              refine ⟨?_, hgr2.out.trans Hg6.out⟩
              rw [Hr.out]
              exact ⟨_, _, rfl⟩
            · rw [hf] at Hr hrv
              simp only at hrv
              obtain ⟨v6, rfl, hown6⟩ := hrv
              have Hmt := Lib.hid (fresh_tame (M := 100) hta.out.dec (pairs cur) more (fun p hp => pairs_small hta.out hp) hf)
              have hfl := fresh_len (pairs cur) more hf
              have hpl0 := pairsTo_len cur cur.length hcl hta.out
              rw [pairsTo_all] at hpl0
              clear hf
              obtain ⟨A6, c6, rfl, hlc6, hcm6⟩ := Own.slice hown6
              have Hown6 := Lib.hid hown6
              clear hown6
              rcases more with _ | ⟨r0, more⟩
              · have hlen6 : (cur ++ ([] : List Rule)).length = cur.length := by simp
                rw [hlen6]
                go_wp2_with fail
                go_ret3
                refine ⟨?_, hgr2.out.trans Hg6.out⟩
                rw [Hr.out]
                exact ⟨_, rfl, hown.out.gr Hg6.out⟩
              · have hlen6 : ¬ (((cur ++ r0 :: more).length : Int) = (cur.length : Int)) := by simp; omega
                go_wp2_with fail
                rw [show cur.length + (more.length + 1) = (cur ++ r0 :: more).length from by simp]
                have hta7 : Tame 100 (cur ++ r0 :: more) := fun x hx => by
                  rcases List.mem_append.1 hx with h | h
                  · have := hta.out x h; omega
                  · exact Hmt.out x h
                have hpl : (cur ++ r0 :: more).length ≤ 1000000000 := by rw [List.length_append]; omega
                refine (settle_any (cur ++ r0 :: more) A6 c6 100 w6 hpl (by omega) hta7 (Own.at_ encR_ok Hown6.out) (by have := (hgr2.out.trans Hg6.out).size; omega) (Hg.out.kp (hgr2.out.trans Hg6.out) (fun h => h))).mono ?_
                rintro e w7 ⟨hsv, hg7⟩
                have Hg7 := Lib.hid ((hgr2.out.trans Hg6.out).trans hg7)
                rcases hs : settle (cur ++ r0 :: more) with _ | m
                · rw [hs] at hsv
                  obtain ⟨v, rfl⟩ := hsv
                  have Hnone := Lib.hid (show complete l k = none from by have h := Hr.out; simp only [hs] at h; exact h)
                  clear hs hg7
                  go_wp2_with fail
                  exact ⟨⟨q, false, _, rfl, by omega, by go_num, rfl, Hg7, .inl ⟨rfl, Hnone⟩⟩, by simp [intOf]⟩
                · rw [hs] at hsv
                  obtain ⟨v, rfl, hown7⟩ := hsv
                  have Hown7 := Lib.hid (hown7.base (hgr2.out.trans Hg6.out).size)
                  obtain ⟨_, h2, h3, _⟩ := settle_keep hta7 hs
                  have H2 := Lib.hid h2
                  have Hce := Lib.hid (show complete l k = rounds q m from by have h := Hr.out; simp only [hs] at h; exact h)
                  clear hs hg7 hown7 h2
                  go_wp2_with fail
                  exact ⟨⟨q, true, _, rfl, by omega, by go_num, rfl, Hg7, .inr ⟨rfl, m, Hown7, H2, h3, Hce⟩⟩, by simp [intOf]⟩
end Go.Proofs.Ytffghamcggadcaa
