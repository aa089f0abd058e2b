/- Contracts of the statements' own helpers: a number below a bound; an occurrence that is replaced, where there is none; an element of the dihedral group. -/
import Derived.Test.YtffghamcggadcaaL4
namespace Go.Proofs.Ytffghamcggadcaa
open Go.RowKit Go.Maps
set_option linter.unusedVariables false
set_option linter.unusedSimpArgs false
attribute [local go_sem] B_size B_toList B_append B_extract B_get take_rest
theorem u64_nonneg (x : Int) : 0 ≤ IntKind.u64.wrap x := by
  unfold IntKind.wrap
  simp only
  rw [if_neg (by simp [IntKind.signed])]
  exact Int.emod_nonneg _ (by decide)
set_option maxHeartbeats 400000 in
theorem mod_any (x : Int) (n : Nat) (w : World) (hx : -9223372036854775808 ≤ x ∧ x ≤ 9223372036854775807) (hn : 1 ≤ n) (hn2 : n ≤ 1000000000) :
    Calls Try.prog 7 #[.int .i64 x, .int .i64 n] w fun e w' => (∃ r : Nat, r < n ∧ e = .returned (.int .i64 r)) ∧ w' = w := by
  go_enter Try.func7, Try.ntmps7
  go_wp2
  go_ret
  refine ⟨?_, rfl⟩
  have h0 := u64_nonneg x
  have h1 : (IntKind.u64.wrap x).tmod n = IntKind.u64.wrap x % n := Int.tmod_eq_emod_of_nonneg h0
  have h2 := Int.emod_lt_of_pos (IntKind.u64.wrap x) (show (0 : Int) < n from by omega)
  have h3 := Int.emod_nonneg (IntKind.u64.wrap x) (show (n : Int) ≠ 0 from by omega)
  refine ⟨(IntKind.u64.wrap x % n).toNat, by omega, ?_⟩
  refine ret_int ?_
  rw [h1, IntWalk.wrap64_in _ ⟨by omega, by omega⟩]
  omega
theorem first_none_all {l : List Rule} : ∀ {s : Str}, first l s = none → ∀ i, i < s.length → ∀ r ∈ l, pre r.1 (s.drop i) = false
  | [], _, i, hi, _, _ => absurd hi (by simp)
  | c :: s, h, i, hi, r, hr => by
    unfold first at h
    cases hf : l.find? fun r => pre r.1 (c :: s) with
    | some x => rw [hf] at h; simp at h
    | none =>
      rw [hf] at h
      simp only [Option.map_eq_none_iff] at h
      cases i with
      | zero => simpa using List.find?_eq_none.1 hf r hr
      | succ i => exact first_none_all h i (by simpa using hi) r hr
set_option maxHeartbeats 1000000 in
set_option maxRecDepth 20000 in
theorem replaced_none (l : List Rule) (s : Str) (ch : Int) (A : Option Addr) (c : Nat) (w : World) (hn : l.length ≤ 1000000) (hs : s.length ≤ 1000000) (hL : Lens l) (hf : first l s = none) (hl : RAt w A l) :
    Calls Try.prog 21 #[.slice A l.length c, .string (B s), .int .i64 ch] w fun e w' => e = .returned (.tuple #[.string (B s), .bool false]) ∧ Gr w w' := by
  have Hl := Lib.hid hl
  have HL := Lib.hid hL
  have Hf := Lib.hid (first_none_all hf)
  clear hl hL hf
  go_enter Try.func21, Try.ntmps21
  go_wp2
  go_loopw [8, 9] (fun va vi wr => ∃ i : Nat, i ≤ s.length ∧ va = .slice none 0 0 ∧ vi = .int .i64 i ∧ Hid (Gr w wr)) (fun _ vi _ => s.length - (intOf vi).toNat)
  case atStart => exact ⟨0, by omega, rfl, rfl, Lib.hid (Kp.refl _ _)⟩
  case round =>
    obtain ⟨i, hi, rfl, rfl, hg⟩ := hrel
    by_cases hlt : i < s.length
    · go_wp2
      obtain ⟨wo, rfl⟩ : ∃ wo : World, wo = wr := ⟨_, rfl⟩
      go_loopw [8, 10] (fun va vk wr => ∃ k : Nat, k ≤ l.length ∧ va = .slice none 0 0 ∧ vk = .int .i64 k ∧ Hid (Gr w wr)) (fun _ vk _ => l.length - (intOf vk).toNat)
      case atStart => exact ⟨0, by omega, rfl, rfl, hg⟩
      case round =>
        clear hg
        obtain ⟨k, hk, rfl, rfl, hg⟩ := hrel
        by_cases hlt2 : k < l.length
        · obtain ⟨ad, rfl, h0, h1⟩ := RAt.get (Hl.out.gr hg.out) hlt2
          obtain ⟨hl1, hl2⟩ := HL.out l[k] (List.getElem_mem hlt2)
          have hne := (prefix_take (s.drop i) l[k].1).trans (Hf.out i hlt l[k] (List.getElem_mem hlt2))
          by_cases hfit : i + l[k].1.length ≤ s.length
          · have hd : decide ((i : Int) + (l[k].1.length : Int) ≤ (s.length : Int)) = true := by simp; omega
            go_wp2
            go_quiet (fail)
            go_wp2
            exact ⟨⟨k + 1, by omega, rfl, by go_num, Lib.hid (hg.out.drewN _)⟩, by simp [intOf]; omega⟩
          · have hd : decide ((i : Int) + (l[k].1.length : Int) ≤ (s.length : Int)) = false := by simp; omega
            go_wp2
            go_quiet (fail)
            go_wp2
            exact ⟨⟨k + 1, by omega, rfl, by go_num, Lib.hid (hg.out.drewN _)⟩, by simp [intOf]; omega⟩
        · go_wp2
          exact ⟨⟨i + 1, by omega, rfl, by go_num, hg⟩, by simp [intOf]; omega⟩
    · go_wp2
      go_ret2
      exact ⟨rfl, hg.out⟩
def elemDStep (n : Nat) (p : Nat × Nat) (c : UInt8) : Nat × Nat := if c = 98 then (p.1, 1 - p.2) else if p.2 = 1 then ((p.1 + n - 1) % n, p.2) else ((p.1 + 1) % n, p.2)
def elemD (n : Nat) (s : Str) : Nat × Nat := s.foldl (elemDStep n) (0, 0)
theorem elemD_take (n : Nat) (s : Str) (i : Nat) (h : i < s.length) : elemD n (s.take (i + 1)) = elemDStep n (elemD n (s.take i)) s[i] := by
  unfold elemD
  rw [List.take_succ_eq_append_getElem h, List.foldl_append]
  rfl
theorem elemDStep_ok {n : Nat} (hn : 2 ≤ n) {p : Nat × Nat} (h1 : p.1 < n) (h2 : p.2 ≤ 1) (c : UInt8) : (elemDStep n p c).1 < n ∧ (elemDStep n p c).2 ≤ 1 := by
  unfold elemDStep
  split
  · exact ⟨h1, by simp⟩
  · split
    · exact ⟨Nat.mod_lt _ (by omega), h2⟩
    · exact ⟨Nat.mod_lt _ (by omega), h2⟩
set_option maxHeartbeats 1000000 in
set_option maxRecDepth 20000 in
theorem element_any (s : Str) (n : Nat) (w : World) (hs : s.length ≤ 1000000) (hn : 2 ≤ n) (hn2 : n ≤ 1000) :
    Calls Try.prog 12 #[.string (B s), .int .i64 n] w fun e w' => e = .returned (.agg #[.int .i64 (elemD n s).1, .int .i64 (elemD n s).2]) ∧ Gr w w' := by
  have hb0 := Lib.hid (Blk.new w 33 #[.int .i64 0, .int .i64 0])
  go_enter Try.func12, Try.ntmps12
  go_wp2
  go_loopw [5, 6, 7] (fun vp vf vi wr => ∃ i p f : Nat, i ≤ s.length ∧ vi = .int .i64 i ∧ vp = .int .i64 p ∧ vf = .int .i64 f ∧ p < n ∧ f ≤ 1 ∧ Hid (elemD n (s.take i) = (p, f)) ∧ Hid (wr = w.alloc (.cells #[.int .i64 0, .int .i64 0] 33))) (fun _ _ vi _ => s.length - (intOf vi).toNat)
  case atStart => exact ⟨0, 0, 0, by omega, rfl, rfl, rfl, by omega, by omega, Lib.hid rfl, Lib.hid rfl⟩
  case round =>
    obtain ⟨i, p, f, hi, rfl, rfl, rfl, hp, hf, he, hw⟩ := hrel
    by_cases hlt : i < s.length
    · have Hst := Lib.hid (elemD_take n s i hlt)
      rw [he.out] at Hst
      by_cases hb : s[i] = 98
      · have hb1 : ((s[i].toNat : Int) == 98) = true := by rw [hb]; rfl
        have Hst2 := Lib.hid (show elemD n (s.take (i + 1)) = (p, 1 - f) from by rw [Hst.out, elemDStep, if_pos hb])
        have hcast : (1 : Int) - (f : Int) = ((1 - f : Nat) : Int) := by omega
        have Hcast := Lib.hid hcast
        clear hb hcast
        go_wp2
        refine ⟨⟨i + 1, p, 1 - f, by omega, by go_num, rfl, ?_, hp, by omega, Hst2, hw⟩, by simp [intOf]; omega⟩
        rw [← Hcast.out]
      · have hb1 : ((s[i].toNat : Int) == 98) = false := by
          rw [beq_eq_false_iff_ne]
          intro h
          apply hb
          apply UInt8.toNat_inj.1
          show s[i].toNat = 98
          omega
        by_cases hf1 : f = 1
        · subst hf1
          have Hst2 := Lib.hid (show elemD n (s.take (i + 1)) = ((p + n - 1) % n, 1) from by rw [Hst.out, elemDStep, if_neg hb, if_pos rfl])
          have Hcast := Lib.hid (show ((p : Int) + (n : Int) - 1) % (n : Int) = (((p + n - 1) % n : Nat) : Int) from by rw [Int.natCast_emod, show ((p + n - 1 : Nat) : Int) = (p : Int) + n - 1 from by omega])
          clear hb
          go_wp2
          refine ⟨⟨i + 1, (p + n - 1) % n, 1, by omega, by go_num, ?_, rfl, Nat.mod_lt _ (by omega), by omega, Hst2, hw⟩, by simp [intOf]; omega⟩
          rw [← Hcast.out]
        · have hf0 : f = 0 := by omega
          subst hf0
          have Hst2 := Lib.hid (show elemD n (s.take (i + 1)) = ((p + 1) % n, 0) from by rw [Hst.out, elemDStep, if_neg hb, if_neg (by omega)])
          have Hcast := Lib.hid (show ((p : Int) + 1) % (n : Int) = (((p + 1) % n : Nat) : Int) from by rw [Int.natCast_emod]; rfl)
          clear hb
          go_wp2
          refine ⟨⟨i + 1, (p + 1) % n, 0, by omega, by go_num, ?_, rfl, Nat.mod_lt _ (by omega), by omega, Hst2, hw⟩, by simp [intOf]; omega⟩
          rw [← Hcast.out]
    · obtain rfl : i = s.length := by omega
      rw [List.take_length] at he
      have hw' := hw.out
      subst hw'
      have hb1 := hb0.out.two
      go_wp2
      refine bodyPost_ret (v := .agg #[.int .i64 (elemD n s).1, .int .i64 (elemD n s).2]) ?_ rfl ⟨rfl, (Kp.refl _ _).alloc _⟩
      have hb2 := (Blk.new w 33 #[.int .i64 (p : Int), .int .i64 (f : Int)]).two
      rw [he.out]
      simp [results, Try.results12, go_sem, hb2]
end Go.Proofs.Ytffghamcggadcaa
