/- Contracts: Pairs, clash, Clash. -/
import Derived.Test.YtffghamcggadcaaPa
namespace Go.Proofs.Ytffghamcggadcaa
open Go.RowKit Go.Maps
set_option linter.unusedVariables false
set_option linter.unusedSimpArgs false
attribute [local go_sem] B_size B_toList B_append B_extract B_get take_rest
theorem overlaps_small {a b : Rule} {s : Bool} (ha : a.2.length ≤ a.1.length ∧ a.1.length ≤ 24) (hb : b.2.length ≤ b.1.length ∧ b.1.length ≤ 24) {p : Str × Str} (h : p ∈ overlaps a b s) : p.1.length ≤ 100 ∧ p.2.length ≤ 100 := by
  unfold overlaps at h
  rcases List.mem_append.1 h with h | h
  · obtain ⟨k, _, rfl⟩ := List.mem_map.1 h
    simp
    omega
  · unfold inners at h
    split at h
    · cases h
    · obtain ⟨k, _, rfl⟩ := List.mem_map.1 h
      simp [replaced]
      omega
theorem pairs_small {l : List Rule} (ht : Tame 24 l) {p : Str × Str} (h : p ∈ pairs l) : p.1.length ≤ 100 ∧ p.2.length ≤ 100 := by
  unfold pairs at h
  obtain ⟨x, hx, h⟩ := List.mem_flatMap.1 h
  obtain ⟨y, hy, h⟩ := List.mem_flatMap.1 h
  have h1 : x.1 ∈ l := by obtain ⟨a, b, c⟩ := List.mem_zipIdx hx; rw [c]; exact List.getElem_mem _
  have h2 : y.1 ∈ l := by obtain ⟨a, b, c⟩ := List.mem_zipIdx hy; rw [c]; exact List.getElem_mem _
  exact overlaps_small (ht _ h1) (ht _ h2) h
def PairsV (base : Nat) (l : List Rule) (e : Ending) (w' : World) : Prop := if isSystem l = true then ∃ v, e = .returned (.tuple #[v, .int .i64 0]) ∧ OwnP w' base v (pairs l) else e = .returned (.tuple #[.slice none 0 0, .int .i64 2])
def clashV : Option (Option Nat) → Value
  | none => .tuple #[.int .i64 0, .bool false]
  | some none => .tuple #[.int .i64 (-1), .bool true]
  | some (some i) => .tuple #[.int .i64 i, .bool true]
theorem clashFrom_cons (l : List Rule) (p : Str × Str) (ps : List (Str × Str)) (i : Nat) : clashFrom l (p :: ps) i = match (normal l p.1).map (·.1), (normal l p.2).map (·.1) with
  | some a, some b => if a = b then clashFrom l ps (i + 1) else some (some i)
  | _, _ => none := by
  conv => lhs; unfold clashFrom forms nf
  rcases normal l p.1 with _ | ⟨a, m⟩ <;> rcases normal l p.2 with _ | ⟨b, n⟩ <;> rfl
set_option maxHeartbeats 4000000 in
set_option maxRecDepth 20000 in
theorem clash_any (l : List Rule) (A : Option Addr) (c : Nat) (w : World) (hn : l.length ≤ 64) (ht : Tame 24 l) (hl : RAt w A l) :
    Calls Try.prog 43 #[.slice A l.length c] w fun e w' => e = .returned (clashV (clash l)) ∧ Gr w w' := by
  have Hl := Lib.hid hl
  have Ht := Lib.hid ht
  clear hl ht
  go_enter Try.func43, Try.ntmps43
  go_wp2_with fail
  refine (pairs_any l A c w hn Ht.out Hl.out).mono ?_
  rintro e w1 ⟨v, rfl, hown, hg1⟩
  obtain ⟨A1, c1, rfl, hlc1, hcm1⟩ := Own.slice hown
  have Hat := Lib.hid (Own.at_ encR_ok hown)
  have Hg1 := Lib.hid hg1
  have Hps := Lib.hid (fun p (hp : p ∈ pairs l) => pairs_small Ht.out hp)
  have Hpl := pairsTo_len l l.length hn Ht.out
  rw [pairsTo_all] at Hpl
  have Hc := Lib.hid (show clash l = clashFrom l ((pairs l).drop 0) 0 from rfl)
  clear hown hg1
  generalize hP : pairs l = P at *
  clear hP
  go_wp2_with fail
  go_loopw [12] (fun vi wr => ∃ i : Nat, i ≤ P.length ∧ vi = .int .i64 i ∧ Hid (clash l = clashFrom l (P.drop i) i) ∧ Hid (Gr w1 wr)) (fun vi _ => P.length - (intOf vi).toNat)
  case atStart => exact ⟨0, by omega, rfl, Hc, Kp.refl _ _⟩
  case round =>
    obtain ⟨i, hi, rfl, hc, hg⟩ := hrel
    by_cases hlt : i < P.length
    · obtain ⟨ad, rfl, h0, h1⟩ := RAt.get (Hat.out.gr hg.out) hlt
      go_wp2_with fail
      obtain ⟨hp1, hp2⟩ := Hps.out P[i] (List.getElem_mem hlt)
      refine (forms_any l P[i].1 P[i].2 A c _ (by omega) (by omega) (by omega) Ht.out.dec ((Hl.out.gr Hg1.out).gr (hg.out.alloc _))).mono ?_
      rintro e w3 ⟨rfl, hg3⟩
      have Hg3 := Lib.hid ((hg.out.alloc (.cells #[.string (B P[i].1), .string (B P[i].2)] 70)).trans hg3)
      clear hg3
      have Hcc := Lib.hid (show clash l = (match (normal l P[i].1).map (·.1), (normal l P[i].2).map (·.1) with
          | some a, some b => if a = b then clashFrom l (P.drop (i + 1)) (i + 1) else some (some i)
          | _, _ => none) from by rw [hc.out, List.drop_eq_getElem_cons hlt]; exact clashFrom_cons _ _ _ _)
      rcases hn1 : normal l P[i].1 with _ | ⟨x1, m1⟩
      · skip
        have Hcl := Lib.hid (show clash l = none from by rw [Hcc.out]; simp only [hn1, Option.map_none, Option.map_some])
        simp only [hn1, Option.isSome_none, Option.isSome_some, Bool.false_and, Bool.and_false]
        clear hn1
        go_wp2_with fail
        go_ret2
        refine ⟨?_, Hg1.out.trans Hg3.out⟩
        rw [Hcl.out]
        rfl
      · rcases hn2 : normal l P[i].2 with _ | ⟨x2, m2⟩
        · skip
          have Hcl := Lib.hid (show clash l = none from by rw [Hcc.out]; simp only [hn1, hn2, Option.map_none, Option.map_some])
          simp only [hn1, hn2, Option.isSome_none, Option.isSome_some, Bool.false_and, Bool.and_false]
          clear hn1 hn2
          go_wp2_with fail
          go_ret2
          refine ⟨?_, Hg1.out.trans Hg3.out⟩
          rw [Hcl.out]
          rfl
        · have Hcl := Lib.hid (show clash l = if x1 = x2 then clashFrom l (P.drop (i + 1)) (i + 1) else some (some i) from by rw [Hcc.out]; simp only [hn1, hn2, Option.map_some])
          simp only [hn1, hn2, Option.isSome_some, Bool.and_self, nfS]
          clear hn1 hn2
          by_cases hx : x1 = x2
          · subst hx
            rw [if_pos rfl] at Hcl
            go_wp2_with fail
            exact ⟨⟨i + 1, by omega, by go_num, Hcl, Hg3⟩, by simp [intOf]; omega⟩
          · rw [if_neg hx] at Hcl
            have hx' : (x1 == x2) = false := by simpa using hx
            go_wp2_with fail
            go_ret2
            refine ⟨?_, Hg1.out.trans Hg3.out⟩
            rw [Hcl.out]
            rfl
    · go_wp2_with fail
      go_ret2
      refine ⟨?_, Hg1.out.trans hg.out⟩
      rw [hc.out, List.drop_eq_nil_of_le (by omega)]
      rfl
def ClashV (l : List Rule) : Value := if isSystem l = true then (match clash l with
  | none => .tuple #[.int .i64 0, .int .i64 5]
  | some none => .tuple #[.int .i64 (-1), .int .i64 0]
  | some (some i) => .tuple #[.int .i64 i, .int .i64 0]) else .tuple #[.int .i64 0, .int .i64 2]
set_option maxHeartbeats 4000000 in
set_option maxRecDepth 20000 in
theorem Clash_any (l : List Rule) (A : Option Addr) (c : Nat) (w : World) (hn : l.length ≤ 1000000000) (hL : Lens l) (hl : RAt w A l) :
    Calls Try.prog 31 #[.slice A l.length c] w fun e w' => e = .returned (ClashV l) ∧ Gr w w' := by
  have Hl := Lib.hid hl
  have HL := Lib.hid hL
  clear hL hl
  go_enter Try.func31, Try.ntmps31
  go_wp2_with fail
  refine (isSystem_any l A c _ hn HL.out Hl.out).mono ?_
  rintro e w1 ⟨rfl, hg1⟩
  have Hg1 := Lib.hid hg1
  clear hg1
  rcases hs : isSystem l with _ | _
  · have Hs := Lib.hid hs
    clear hs
    go_wp2_with fail
    go_ret2
    refine ⟨?_, Hg1.out⟩
    unfold ClashV
    rw [if_neg (by simp [Hs.out])]
    rfl
  · have Hs := Lib.hid hs
    clear hs
    go_wp2_with fail
    have h64 := isSystem_len Hs.out
    refine (clash_any l A c w1 h64 (isSystem_tame Hs.out) (Hl.out.gr Hg1.out)).mono ?_
    rintro e w2 ⟨rfl, hg2⟩
    have Hg2 := Lib.hid hg2
    clear hg2
    have Hv := Lib.hid (show ClashV l = (match clash l with
      | none => .tuple #[.int .i64 0, .int .i64 5]
      | some none => .tuple #[.int .i64 (-1), .int .i64 0]
      | some (some i) => .tuple #[.int .i64 i, .int .i64 0]) from by unfold ClashV; rw [if_pos Hs.out])
    rcases hcl : clash l with _ | _ | i
    all_goals
      rw [hcl] at Hv
      clear hcl
      simp only [clashV]
      go_wp2_with fail
      go_ret2
      refine ⟨?_, Hg1.out.trans Hg2.out⟩
      rw [Hv.out]
      rfl
end Go.Proofs.Ytffghamcggadcaa
