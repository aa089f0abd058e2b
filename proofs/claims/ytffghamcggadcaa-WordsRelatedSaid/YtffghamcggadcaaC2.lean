/- Contracts: the first step and the normal form. Conditions: the lengths stay within int. -/
import Derived.Test.YtffghamcggadcaaC1
namespace Go.Proofs.Ytffghamcggadcaa
open Go.RowKit
set_option linter.unusedVariables false
set_option linter.unusedSimpArgs false
attribute [local go_sem] B_size B_toList B_append B_extract B_get take_rest
def firstV : Option (Nat × Rule) → Value
  | none => .tuple #[.int .i64 0, .agg #[.string (B []), .string (B [])], .bool false]
  | some (i, r) => .tuple #[.int .i64 i, .agg #[.string (B r.1), .string (B r.2)], .bool true]
set_option maxHeartbeats 1000000 in
set_option maxRecDepth 20000 in
theorem first_any (l : List Rule) (s : Str) (A : Option Addr) (c : Nat) (w : World) (hs : s.length ≤ 1000000000) (hn : l.length ≤ 1000000000) (hl : RAt w A l) :
    Calls Try.prog 49 #[.slice A l.length c, .string (B s)] w fun e w' => e = .returned (firstV (first l s)) ∧ Gr w w' := by
  have Hl := Lib.hid hl
  clear hl
  go_enter Try.func49, Try.ntmps49
  go_wp2
  go_loopw [12] (fun i wr => ∃ k : Nat, k ≤ s.length ∧ i = .int .i64 k ∧ Hid (FirstFrom l s k) ∧ Hid (Gr w wr) ∧ Hid (Blk wr w.heap.size 24 #[.string ⟨#[]⟩, .string ⟨#[]⟩])) (fun i _ => s.length - (intOf i).toNat)
  case atStart => exact ⟨0, by omega, rfl, FirstFrom.zero _ _, (Kp.refl _ _).alloc _, Blk.new _ _ _⟩
  case round =>
    obtain ⟨k, hk, rfl, hf, hg, hb⟩ := hrel
    by_cases hlt : k < s.length
    · go_wp2
      obtain ⟨wo, rfl⟩ : ∃ wo : World, wo = wr := ⟨_, rfl⟩
      go_loopw [17] (fun i wr => ∃ j : Nat, j ≤ l.length ∧ i = .int .i64 j ∧ Hid (∀ i (hi : i < l.length), i < j → pre l[i].1 (s.drop k) = false) ∧ Hid (Gr w wr) ∧ Hid (Blk wr w.heap.size 24 #[.string ⟨#[]⟩, .string ⟨#[]⟩])) (fun i _ => l.length - (intOf i).toNat)
      case atStart => exact ⟨0, by omega, rfl, fun i _ h => absurd h (by omega), hg, hb⟩
      case round =>
        clear hg hb
        obtain ⟨j, hj, rfl, hm, hg, hb⟩ := hrel
        by_cases hlt2 : j < l.length
        · obtain ⟨ad, rfl, h0, h1⟩ := (RAt.get (Hl.out.gr hg.out) hlt2)
          go_wp2
          go_quiet ((go_at_call 68; exact Calls.quiet_of_same (hasPrefix_any _ _ _)))
          rcases Bool.eq_false_or_eq_true (pre l[j].1 (s.drop k)) with hp | hp
          · rw [hp]
            go_wp2
            refine wp_region_S (· = w.heap.size) [(0, true), (1, true), (2, true), (3, false), (4, true)] (by kernel_rfl) (by kernel_rfl) ?_
            have hbl := (Blk.new wr 24 #[.string (B l[j].1), .string (B l[j].2)]).two
            have hne : ¬ wr.heap.size = w.heap.size := by have := hb.out.lt; omega
            have HF : ∀ w', Kp (· = w.heap.size) ((wr.alloc (Obj.cells #[.string (B l[j].1), .string (B l[j].2)] 24)).drewN nq) w' → w'.cell? ⟨wr.heap.size, 0, none⟩ = some (.string (B l[j].1)) ∧ w'.cell? ⟨wr.heap.size, 1, none⟩ = some (.string (B l[j].2)) :=
              fun w' hG => ⟨hG.cell hbl.1 hne, hG.cell hbl.2.1 hne⟩
            replace HF := Lib.hid HF
            clear hbl
            iterate 3 (
              refine rp_val (v := ?_) rfl (fun _ _ _ h => h) rfl (fun w' hG => ?_) ?_
              rotate_left
              · have hF := HF.out w' hG
                clear hG
                go_simp
                with_reducible rfl
              simp only [Act.put, List.setIfInBounds_toArray, List.set_cons_zero, List.set_cons_succ])
            refine rp_loud rfl (by rfl) (fun w' hG K hK => ?_)
            have hb1 : Blk w' w.heap.size 24 #[.string ⟨#[]⟩, .string ⟨#[]⟩] := ((hb.out.alloc _).drewN nq).gr hG
            have HK := Lib.hid hK
            clear hK
            obtain ⟨c0, c1, f0, f1⟩ := hb1.two
            go_simp
            have hb2 : Blk ((w'.setCell ⟨w.heap.size, 0, none⟩ (.string (B l[j].1))).setCell ⟨w.heap.size, 1, none⟩ (.string (B l[j].2))) w.heap.size 24 #[.string (B l[j].1), .string (B l[j].2)] := (hb1.set_ 0 _).set_ 1 _
            have hk2 : Kp (· = w.heap.size) w' ((w'.setCell ⟨w.heap.size, 0, none⟩ (.string (B l[j].1))).setCell ⟨w.heap.size, 1, none⟩ (.string (B l[j].2))) := Kp.set2 _ _ _ _ _ _
            refine HK.out _ _ hk2 ?_
            clear HK
            refine rp_val (v := ?_) rfl (fun _ _ _ h => h) rfl (fun w' hG => ?_) ?_
            rotate_left
            · go_simp
              with_reducible rfl
            simp only [Act.put, List.setIfInBounds_toArray, List.set_cons_zero, List.set_cons_succ]
            refine rp_done fun w3 hG3 => ?_
            replace hb2 := hb2.gr hG3
            replace hk2 := Gr.kp (((hg.out.alloc _).drewN _).trans hG) (hk2.trans (hG3.mono fun _ _ h => h.elim)) (fun i h1 h2 => by omega)
            clear hG3
            go_wp2
            refine bodyPost_ret (v := firstV (first l s)) ?_ rfl ⟨rfl, hk2⟩
            rw [hf.out.hit hlt hlt2 (fun i hi => hm.out i (by omega) hi) hp]
            obtain ⟨c0, c1, f0, f1⟩ := hb2.two
            simp [results, Try.results49, go_sem, c0, c1, firstV]
          · rw [hp]
            go_wp2
            go_roundw
            case rel => exact ⟨j + 1, by omega, by go_num, fun i h1 h2 => by
              by_cases e : i = j
              · subst e; exact hp
              · exact hm.out i h1 (by omega), (hg.out.alloc _).drewN _, (hb.out.alloc _)⟩
            case measure => simp [intOf]; omega
        · go_wp2
          go_roundw
          case rel => exact ⟨k + 1, by omega, by go_num, hf.out.step hlt fun i hi => hm.out i hi (by omega), hg, hb⟩
          case measure => simp [intOf]; omega
    · obtain ⟨c0, c1, f0, f1⟩ := hb.out.two
      go_wp2
      obtain rfl : k = s.length := by omega
      refine bodyPost_ret (v := firstV (first l s)) ?_ rfl ⟨rfl, (hg.out.kp (Kp.set2 _ _ _ _ _ _) (fun i h1 h2 => by omega))⟩
      rw [hf.out.miss]
      simp [results, Try.results49, go_sem, c0, c1, firstV]
      rfl
def normV : Option (Str × Nat) → Value
  | none => .tuple #[.string (B []), .int .i64 0, .bool false]
  | some (t, n) => .tuple #[.string (B t), .int .i64 n, .bool true]
def NormFrom (l : List Rule) (s t : Str) (n : Nat) : Prop := normal l s = normalN l (20000 - n) t n
set_option maxHeartbeats 1000000 in
set_option maxRecDepth 20000 in
theorem normal_any (l : List Rule) (s : Str) (A : Option Addr) (c : Nat) (w : World) (hs : s.length ≤ 1000000000) (hn : l.length ≤ 1000000000) (hd : Dec l) (hl : RAt w A l) :
    Calls Try.prog 34 #[.slice A l.length c, .string (B s)] w fun e w' => e = .returned (normV (normal l s)) ∧ Gr w w' := by
  have Hl := Lib.hid hl
  have Hd := Lib.hid hd
  clear hl hd
  go_enter Try.func34, Try.ntmps34
  go_wp2
  go_loopw [1, 7] (fun v i wr => ∃ (t : Str) (n : Nat), n ≤ 20000 ∧ t.length ≤ 1000000000 ∧ v = .string (B t) ∧ i = .int .i64 n ∧ Hid (NormFrom l s t n) ∧ Hid (Gr w wr)) (fun _ i _ => 20001 - (intOf i).toNat)
  case atStart => exact ⟨s, 0, by omega, hs, rfl, rfl, rfl, Kp.refl _ _⟩
  case round =>
    obtain ⟨t, n, hn2, ht, rfl, rfl, hf, hg⟩ := hrel
    rcases hfst : first l t with _ | ⟨i, r⟩
    · have Hf := Lib.hid hfst
      clear hfst
      go_wp2_with (go_at_call 49; refine (first_any l _ _ _ _ (by assumption) (by assumption) (by exact Hl.out.gr hg.out)).mono ?_; rintro e w1 ⟨rfl, hg1⟩; rw [Hf.out]; simp only [firstV]; have Hg1 := Lib.hid hg1; clear hg1)
      go_ret3
      refine ⟨?_, (hg.out.trans Hg1.out).alloc _⟩
      rw [hf.out, normalN_none Hf.out]
      rfl
    · have hsp := first_spec hfst
      have hrl := replaced_le hsp.2.1 (Hd.out r hsp.1)
      have hi : i + r.1.length ≤ t.length := hsp.2.1
      have hr : r.2.length ≤ 1000000000 := by have := Hd.out r hsp.1; omega
      have Hf := Lib.hid hfst
      clear hfst hsp
      by_cases hm : n = 20000
      · subst hm
        go_wp2_with (go_at_call 49; refine (first_any l _ _ _ _ (by assumption) (by assumption) (by exact Hl.out.gr hg.out)).mono ?_; rintro e w1 ⟨rfl, hg1⟩; rw [Hf.out]; simp only [firstV]; have Hg1 := Lib.hid hg1; clear hg1)
        go_ret3
        refine ⟨?_, (hg.out.trans Hg1.out).alloc _⟩
        rw [hf.out, normalN_stop Hf.out]
        rfl
      · have hm2 : ((n : Int) == 20000) = false := by rw [beq_eq_false_iff_ne]; omega
        go_wp2_with (first
          | (go_at_call 49; refine (first_any l _ _ _ _ (by assumption) (by assumption) (by exact Hl.out.gr hg.out)).mono ?_; rintro e w1 ⟨rfl, hg1⟩; rw [Hf.out]; simp only [firstV]; have Hg1 := Lib.hid hg1; clear hg1)
          | (go_at_call 50; refine (replaced_any _ _ _ _ _ (by assumption) (by assumption) (by assumption)).mono ?_; rintro e w2 ⟨rfl, hg2⟩; have Hg2 := Lib.hid hg2; clear hg2))
        go_roundw
        case rel => exact ⟨replaced t i r, n + 1, by omega, by omega, rfl, by go_num, by
          have h := hf.out
          unfold NormFrom at h
          rw [show 20000 - n = (20000 - (n + 1)) + 1 from by omega, normalN_go Hf.out] at h
          exact h, ((hg.out.trans Hg1.out).alloc _).trans Hg2.out⟩
        case measure => simp [intOf]; omega
end Go.Proofs.Ytffghamcggadcaa
