/- Contract of the reference: Tidy. -/
import Derived.Test.YtffghamcggadcaaGreatR5
import Derived.Test.YtffghamcggadcaaGreatEx
namespace Go.Proofs.YtffghamcggadcaaGreat
open Go.RowKit Go.Maps
set_option linter.unusedVariables false
set_option linter.unusedSimpArgs false
attribute [local go_sem] B_size B_toList B_append B_extract B_get take_rest
def refTidyV (o : Option (List Rule)) (e : Ending) (w' : World) : Prop := match o with
  | none => e = .returned (.tuple #[.slice none 0 0, .bool false])
  | some m => ∃ A c, e = .returned (.tuple #[.slice A m.length c, .bool true]) ∧ m.length ≤ c ∧ c ≤ maxLen ∧ (A = none → c = 0) ∧ RAt w' A m
theorem putAll_take (l : List Rule) (i : Nat) (h : i < l.length) : putAll (l.take (i + 1)) = put l[i] (putAll (l.take i)) := by
  unfold putAll
  rw [List.take_succ_eq_append_getElem h, List.foldl_append]
  rfl
theorem Tame.lens {M : Nat} {l : List Rule} (h : Tame M l) (hM : M ≤ 1000000) : ∀ r ∈ l, r.1.length ≤ 1000000000 ∧ r.2.length ≤ 1000000000 := fun r hr => by
  have := h r hr
  omega
set_option maxHeartbeats 4000000 in
set_option maxRecDepth 20000 in
theorem refTidy_any (l : List Rule) (A : Option Addr) (c M : Nat) (w : World) (hn : l.length ≤ 1000) (hM : M ≤ 1000000) (ht : Tame M l) (hl : RAt w A l) :
    Calls Tryz.prog 12 #[.slice A l.length c] w fun e w' => refTidyV (tidy l) e w' ∧ Gr w w' := by
  have Ht := Lib.hid ht
  have Hl := Lib.hid hl
  clear ht hl
  go_enter Tryz.func12, Tryz.ntmps12
  go_wp2
  go_loopw [4, 5] (fun v vi wr => ∃ (i : Nat) (B1 : Option Addr) (c1 : Nat), i ≤ l.length ∧ vi = .int .i64 i ∧ v = .slice B1 (putAll (l.take i)).length c1 ∧ (putAll (l.take i)).length ≤ c1 ∧ c1 ≤ maxLen ∧ Hid (B1 = none → c1 = 0) ∧ Hid (RAt wr B1 (putAll (l.take i))) ∧ Hid (Gr w wr)) (fun _ vi _ => l.length - (intOf vi).toNat)
  case atStart => exact ⟨0, none, 0, by omega, rfl, by simp [putAll], by simp [putAll], by simp [maxLen], Lib.hid (fun _ => rfl), Lib.hid (by simpa [putAll] using At.nil _ _ _ _), Lib.hid (Kp.refl _ _)⟩
  case round =>
    obtain ⟨i, B1, c1, hi, rfl, rfl, hc1, hm1, hB1, hat, hg⟩ := hrel
    have htm : Tame M (putAll (l.take i)) := fun x hx => Ht.out x (List.mem_of_mem_take ((putAll_mem _ x).1 hx))
    have hpl : (putAll (l.take i)).length ≤ 1000 := by have := putAll_len (l.take i); simp at this; omega
    have Htm := Lib.hid htm
    clear htm
    by_cases hlt : i < l.length
    · obtain ⟨ad, rfl, h0, h1⟩ := RAt.get (Hl.out.gr hg.out) hlt
      have hti := Ht.out l[i] (List.getElem_mem hlt)
      have Hm1 := Lib.hid hm1
      have Hti := Lib.hid hti
      clear hm1 hti
      go_wp2_with fail
      refine (refPut_any (putAll (l.take i)) l[i] B1 c1 _ (by omega) hc1 Hm1.out hB1.out (Htm.out.lens hM) (by have := Hti.out; omega) hat.out).mono ?_
      rintro e w2 ⟨A2, c2, rfl, hc2, hm2, hA2, hat2, hg2⟩
      rw [← putAll_take l i hlt] at hc2 hat2 ⊢
      have Hm2 := Lib.hid hm2
      have Hat2 := Lib.hid hat2
      have Hg2 := Lib.hid (hg.out.trans hg2)
      have HA2 := Lib.hid hA2
      clear hm2 hat2 hg2 hA2
      go_wp2
      exact ⟨⟨i + 1, A2, c2, by omega, by go_num, rfl, hc2, Hm2.out, HA2, Hat2, Hg2⟩, by simp [intOf]; omega⟩
    · obtain rfl : i = l.length := by omega
      rw [List.take_length] at hpl Htm hc1 hat ⊢
      have Hm1 := Lib.hid hm1
      clear hm1
      go_wp2
      obtain ⟨wo, rfl⟩ : ∃ wo : World, wo = wr := ⟨_, rfl⟩
      go_loopw [4, 6] (fun v vm wr => ∃ (mv : Nat) (cur : List Rule) (B2 : Option Addr) (c2 : Nat), mv ≤ 2000 ∧ vm = .int .i64 mv ∧ v = .slice B2 cur.length c2 ∧ cur.length ≤ c2 ∧ Hid (c2 ≤ maxLen) ∧ cur.length ≤ 1000 ∧ Hid (B2 = none → c2 = 0) ∧ Hid (Tame M cur) ∧ Hid (tidy l = tidyN (2000 - mv) cur) ∧ Hid (RAt wr B2 cur) ∧ Hid (Gr w wr)) (fun _ vm _ => 2001 - (intOf vm).toNat)
      case atStart => exact ⟨0, putAll l, B1, c1, by omega, rfl, rfl, hc1, Hm1, hpl, hB1, Htm, Lib.hid rfl, hat, hg⟩
      case round =>
        clear hc1 Hm1 hpl hB1 Htm hat hg
        obtain ⟨mv, cur, B2, c2, hmv, rfl, rfl, hc2, hm2, hcl, hB2, htm, htd, hat, hg⟩ := hrel
        go_wp2
        obtain ⟨wq, rfl⟩ : ∃ wq : World, wq = wr := ⟨_, rfl⟩
        go_loopw [7] (fun vk wr => ∃ k : Nat, k ≤ cur.length ∧ vk = .int .i64 k ∧ Hid (∀ i (h : i < cur.length), i < k → isNormal cur i cur[i] = true) ∧ Hid (Gr wq wr)) (fun vk _ => cur.length - (intOf vk).toNat)
        case atStart => exact ⟨0, by omega, rfl, Lib.hid (fun i _ h => absurd h (by omega)), Lib.hid (Kp.refl _ _)⟩
        case round =>
          obtain ⟨k, hk, rfl, hm, hg3⟩ := hrel
          by_cases hlt : k < cur.length
          · go_wp2_with fail
            refine (refIsNormal_any cur k B2 c2 _ (by omega) hlt (htm.out.lens hM) (hat.out.gr hg3.out)).mono ?_
            rintro e w4 ⟨rfl, hg4⟩
            have Hg4 := Lib.hid (hg3.out.trans hg4)
            clear hg4
            rcases hnr : isNormal cur k cur[k] with _ | _
            · have Hw := Lib.hid (show wrong cur = some (k, cur[k]) from by
                rw [wrong_drop cur k (by omega) hm.out, List.drop_eq_getElem_cons hlt]
                unfold wrongFrom
                rw [hnr]
                rfl)
              clear hnr
              have hkne : ((k : Int) == (cur.length : Int)) = false := by rw [beq_eq_false_iff_ne]; omega
              by_cases hm2000 : mv = 2000
              · subst hm2000
                have Hfin := Lib.hid (show tidy l = none from by rw [htd.out]; exact tidyN_zero Hw.out)
                go_wp2
                go_ret2
                refine ⟨?_, hg.out.trans Hg4.out⟩
                rw [Hfin.out]
                rfl
              · have hmne : ((mv : Int) == 2000) = false := by rw [beq_eq_false_iff_ne]; omega
                have Htd := Lib.hid (show tidy l = (match forms (cur.eraseIdx k) cur[k] with
                  | none => none
                  | some (a, b) => tidyN (2000 - (mv + 1)) (if a = b then cur.eraseIdx k else put (directed a b) (cur.eraseIdx k))) from by rw [htd.out, show 2000 - mv = (2000 - (mv + 1)) + 1 from by omega]; exact tidyN_succ Hw.out _)
                obtain ⟨ad, hB2e, h0, h1⟩ := RAt.get (hat.out.gr Hg4.out) hlt
                subst hB2e
                have hti := Lib.hid (htm.out cur[k] (List.getElem_mem hlt))
                go_wp2_with fail
                refine (refWithout_any cur k (some ad) c2 _ (by omega) hlt hc2 hm2.out (hat.out.gr Hg4.out)).mono ?_
                rintro e w5 ⟨A5, c5, rfl, hc5, hm5, hA5, hat5, hg5⟩
                have g0 := Gr.cell hg5 h0
                have g1 := Gr.cell hg5 h1
                have Hm5 := Lib.hid hm5
                have HA5 := Lib.hid hA5
                have Hat5 := Lib.hid hat5
                have Hg5 := Lib.hid (Hg4.out.trans hg5)
                have hel : (cur.eraseIdx k).length ≤ 1000 := by have := List.length_eraseIdx_le cur k; omega
                have hte := Lib.hid (show Tame M (cur.eraseIdx k) from fun x hx => htm.out x (List.mem_of_mem_eraseIdx hx))
                clear hm5 hA5 hat5 hg5 h0 h1
                go_wp2_with fail
                refine (RefNormal_any (cur.eraseIdx k) cur[k].1 A5 c5 _ (by have := hti.out; omega) (by omega) hte.out.dec (hte.out.lens hM) Hat5.out).mono ?_
                rintro e w6 ⟨rfl, hg6⟩
                rw [normV_eq]
                have q1 := Gr.cell hg6 g1
                have Hg6 := Lib.hid hg6
                clear hg6 g0
                go_wp2_with fail
                refine (RefNormal_any (cur.eraseIdx k) cur[k].2 A5 c5 _ (by have := hti.out; omega) (by omega) hte.out.dec (hte.out.lens hM) (Hat5.out.gr Hg6.out)).mono ?_
                rintro e w7 ⟨rfl, hg7⟩
                rw [normV_eq]
                have Hg7 := Lib.hid ((Hg5.out.trans Hg6.out).trans hg7)
                have Hat7 := Lib.hid (Hat5.out.gr (Hg6.out.trans hg7))
                clear hg7 g1 q1
                have Hf := Lib.hid (show forms (cur.eraseIdx k) cur[k] = (match (normal (cur.eraseIdx k) cur[k].1).map (·.1), (normal (cur.eraseIdx k) cur[k].2).map (·.1) with
                  | some a, some b => some (a, b)
                  | _, _ => none) from rfl)
                rcases hn1 : normal (cur.eraseIdx k) cur[k].1 with _ | ⟨x1, m1⟩
                · rw [hn1] at Hf
                  have Hfin := Lib.hid (show tidy l = none from by rw [Htd.out, Hf.out]; rfl)
                  clear hn1
                  rcases normal (cur.eraseIdx k) cur[k].2 with _ | ⟨x2, m2⟩
                  all_goals
                    simp only [Option.isSome_none, Option.isSome_some, nfS, nfN]
                    go_wp2
                    go_ret2
                    refine ⟨?_, hg.out.trans Hg7.out⟩
                    rw [Hfin.out]
                    rfl
                · rcases hn2 : normal (cur.eraseIdx k) cur[k].2 with _ | ⟨x2, m2⟩
                  · rw [hn1, hn2] at Hf
                    have Hfin := Lib.hid (show tidy l = none from by rw [Htd.out, Hf.out]; rfl)
                    simp only [hn1, hn2, Option.isSome_none, Option.isSome_some, nfS, nfN]
                    clear hn1 hn2
                    go_wp2
                    go_ret2
                    refine ⟨?_, hg.out.trans Hg7.out⟩
                    rw [Hfin.out]
                    rfl
                  · rw [hn1, hn2] at Hf
                    have Hf2 := Lib.hid (show forms (cur.eraseIdx k) cur[k] = some (x1, x2) from Hf.out)
                    have hxl := forms_le (M := M) hte.out.dec Hf2.out
                    have hx1 : x1.length ≤ M := by have := hti.out; omega
                    have hx2 : x2.length ≤ M := by have := hti.out; omega
                    simp only [hn1, hn2, Option.isSome_some, nfS, nfN]
                    clear hn1 hn2
                    have Htd2 := Lib.hid (show tidy l = tidyN (2000 - (mv + 1)) (if x1 = x2 then cur.eraseIdx k else put (directed x1 x2) (cur.eraseIdx k)) from by rw [Htd.out, Hf2.out])
                    by_cases hx : x1 = x2
                    · have hx' : (x1 == x2) = true := by simpa using hx
                      have Htd3 := Lib.hid (show tidy l = tidyN (2000 - (mv + 1)) (cur.eraseIdx k) from by rw [Htd2.out, if_pos hx])
                      clear hx
                      go_wp2
                      exact ⟨⟨mv + 1, cur.eraseIdx k, A5, c5, by omega, by go_num, rfl, hc5, Hm5, hel, HA5, hte, Htd3, Hat7, Lib.hid (hg.out.trans Hg7.out)⟩, by simp [intOf]; omega⟩
                    · have hx' : (x1 == x2) = false := by simpa using hx
                      have Htd3 := Lib.hid (show tidy l = tidyN (2000 - (mv + 1)) (put (directed x1 x2) (cur.eraseIdx k)) from by rw [Htd2.out, if_neg hx])
                      clear hx
                      have hdir := directed_len (M := M) hx1 hx2
                      go_wp2_with fail
                      refine (Oriented_any x1 x2 _ (by omega) (by omega)).mono ?_
                      rintro e w8 ⟨rfl, hg8⟩
                      have Hg8 := Lib.hid (Hg7.out.trans hg8)
                      have Hat8 := Lib.hid (Hat7.out.gr hg8)
                      clear hg8
                      go_wp2_with fail
                      refine (refPut_any (cur.eraseIdx k) (directed x1 x2) A5 c5 _ (by omega) hc5 Hm5.out HA5.out (hte.out.lens hM) (by omega) Hat8.out).mono ?_
                      rintro e w9 ⟨A9, c9, rfl, hc9, hm9, hA9, hat9, hg9⟩
                      have hpl9 := put_len (directed x1 x2) (cur.eraseIdx k)
                      have hel2 : (cur.eraseIdx k).length + 1 = cur.length := by rw [List.length_eraseIdx]; simp [hlt]; omega
                      have Hm9 := Lib.hid hm9
                      have HA9 := Lib.hid hA9
                      have Hat9 := Lib.hid hat9
                      have Hg9 := Lib.hid (Hg8.out.trans hg9)
                      have hte9 := Lib.hid (show Tame M (put (directed x1 x2) (cur.eraseIdx k)) from fun x hx => by
                        rcases put_mem.1 hx with rfl | hx
                        · exact hdir
                        · exact hte.out x hx)
                      clear hm9 hA9 hat9 hg9
                      go_wp2
                      exact ⟨⟨mv + 1, put (directed x1 x2) (cur.eraseIdx k), A9, c9, by omega, by go_num, rfl, hc9, Hm9, by omega, HA9, hte9, Htd3, Hat9, Lib.hid (hg.out.trans Hg9.out)⟩, by simp [intOf]; omega⟩
            · have Hnr := Lib.hid hnr
              clear hnr
              go_wp2
              refine ⟨⟨k + 1, by omega, by go_num, Lib.hid (fun i h1 h2 => ?_), Hg4⟩, by simp [intOf]; omega⟩
              by_cases e : i = k
              · subst e; exact Hnr.out
              · exact hm.out i h1 (by omega)
          · obtain rfl : k = cur.length := by omega
            have Hfin := Lib.hid (show tidy l = some cur from by
              rw [htd.out]
              unfold tidyN
              rw [wrong_drop cur cur.length (Nat.le_refl _) hm.out, List.drop_length]
              rfl)
            go_wp2
            go_ret2
            refine ⟨?_, hg.out.trans hg3.out⟩
            rw [Hfin.out]
            exact ⟨B2, c2, rfl, hc2, hm2.out, hB2.out, hat.out.gr hg3.out⟩
end Go.Proofs.YtffghamcggadcaaGreat
