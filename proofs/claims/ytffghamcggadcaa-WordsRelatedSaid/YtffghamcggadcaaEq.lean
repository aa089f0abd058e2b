/- Contract: Equal. -/
import Derived.Test.YtffghamcggadcaaNo
namespace Go.Proofs.Ytffghamcggadcaa
open Go.RowKit Go.Maps
set_option linter.unusedVariables false
set_option linter.unusedSimpArgs false
attribute [local go_sem] B_size B_toList B_append B_extract B_get take_rest
/-- a system that settle has let through -/
def Good (m : List Rule) : Prop := Sorted m ∧ Tame 24 m ∧ m.length ≤ 64 ∧ wrong m = none
theorem rounds_keep : ∀ (k : Nat) (l m : List Rule) (b : Bool), Good l → rounds k l = some (m, b) → Good m
  | 0, l, m, b, hg, h => by
    unfold rounds at h
    rcases hc : clash l with _ | c
    · rw [hc] at h; simp at h
    · rw [hc] at h
      simp at h
      rw [← h.1]; exact hg
  | k + 1, l, m, b, hg, h => by
    unfold rounds at h
    rcases hf : fresh l (pairs l) with _ | more
    · rw [hf] at h; simp at h
    · have hm := fresh_tame (M := 100) hg.2.1.dec (pairs l) more (fun p hp => pairs_small hg.2.1 hp) hf
      rw [hf] at h
      rcases more with _ | ⟨r, more⟩
      · simp at h
        rw [← h.1]; exact hg
      · simp only at h
        rcases hs : settle (l ++ r :: more) with _ | x
        · rw [hs] at h; simp at h
        · rw [hs] at h
          simp only at h
          have ht : Tame 100 (l ++ r :: more) := fun y hy => by
            rcases List.mem_append.1 hy with h' | h'
            · have := hg.2.1 y h'; omega
            · exact hm y h'
          obtain ⟨a1, a2, a3, a4, _⟩ := settle_keep ht hs
          exact rounds_keep k x m b ⟨a1, a2, a3, a4⟩ h
theorem complete_keep {l m : List Rule} {k : Nat} {b : Bool} (hL : ∀ r ∈ l, r.1.length ≤ 24 ∧ r.2.length ≤ 24) (h : complete l k = some (m, b)) : Good m := by
  unfold complete at h
  rcases hs : settle (oriented l) with _ | x
  · rw [hs] at h; simp at h
  · rw [hs] at h
    obtain ⟨a1, a2, a3, a4, _⟩ := settle_keep (oriented_tame hL) hs
    exact rounds_keep k x m b ⟨a1, a2, a3, a4⟩ h
def EqualV (l : List Rule) (k : Int) (a b : Str) : Value := if (areEqs l k && isString a && isString b) = true then (match complete l k.toNat with
  | none => .tuple #[.int .i64 0, .int .i64 5]
  | some (m, cf) => match nf m a, nf m b with
    | some x, some y => if x = y then .tuple #[.int .i64 1, .int .i64 0] else if cf = true then .tuple #[.int .i64 0, .int .i64 0] else .tuple #[.int .i64 (-1), .int .i64 0]
    | _, _ => .tuple #[.int .i64 0, .int .i64 5]) else .tuple #[.int .i64 0, .int .i64 2]
set_option maxHeartbeats 4000000 in
set_option maxRecDepth 20000 in
theorem Equal_any (l : List Rule) (k : Int) (a b : Str) (A : Option Addr) (c : Nat) (w : World) (hn : l.length ≤ 1000000000) (hk : -9223372036854775808 ≤ k ∧ k ≤ 9223372036854775807) (ha : a.length ≤ 1000000000) (hb : b.length ≤ 1000000000) (hL : Lens l) (hl : RAt w A l) (hz : 0 < w.heap.size) (hg : Glob w) :
    Calls Try.prog 11 #[.slice A l.length c, .int .i64 k, .string (B a), .string (B b)] w fun e w' => e = .returned (EqualV l k a b) ∧ Gr w w' := by
  have Hl := Lib.hid hl
  have HL := Lib.hid hL
  have Hg := Lib.hid hg
  clear hL hl hg
  go_enter Try.func11, Try.ntmps11
  go_wp2_with fail
  refine (areEquations_any l k A c w hn HL.out Hl.out).mono ?_
  rintro e w1 ⟨rfl, hg1⟩
  have Hg1 := Lib.hid hg1
  clear hg1
  rcases hs : areEqs l k with _ | _
  · have Hs := Lib.hid hs
    clear hs
    go_wp2_with fail
    go_ret2
    refine ⟨?_, Hg1.out⟩
    unfold EqualV
    rw [if_neg (by simp [Hs.out])]
    rfl
  · have Hs := Lib.hid hs
    clear hs
    go_wp2_with fail
    refine (isString_any a _ ha).mono ?_
    rintro e w2 ⟨rfl, rfl⟩
    rcases hsa : isString a with _ | _
    · have Hsa := Lib.hid hsa
      clear hsa
      go_wp2_with fail
      go_ret2
      refine ⟨?_, Hg1.out⟩
      unfold EqualV
      rw [if_neg (by simp [Hsa.out])]
      rfl
    · have Hsa := Lib.hid hsa
      clear hsa
      go_wp2_with fail
      refine (isString_any b _ hb).mono ?_
      rintro e w2 ⟨rfl, rfl⟩
      rcases hsb : isString b with _ | _
      · have Hsb := Lib.hid hsb
        clear hsb
        go_wp2_with fail
        go_ret2
        refine ⟨?_, Hg1.out⟩
        unfold EqualV
        rw [if_neg (by simp [Hsb.out])]
        rfl
      · have Hsb := Lib.hid hsb
        clear hsb
        obtain ⟨h1, h2, h3, h4⟩ := areEqs_lens Hs.out
        have H2 := Lib.hid h2
        clear h2
        obtain ⟨q, rfl⟩ : ∃ q : Nat, k = q := ⟨k.toNat, by omega⟩
        go_wp2_with fail
        refine (complete_any l q A c _ h1 (by omega) H2.out (Hl.out.gr Hg1.out) (by have := Hg1.out.size; omega) (Hg.out.kp Hg1.out (fun h => h))).mono ?_
        rintro e w2 ⟨hc, hg2⟩
        have Hg2 := Lib.hid hg2
        clear hg2
        have hla : a.length ≤ 200 := by have h := Hsa.out; unfold isString at h; simp only [Bool.and_eq_true, decide_eq_true_eq] at h; exact h.1
        have hlb : b.length ≤ 200 := by have h := Hsb.out; unfold isString at h; simp only [Bool.and_eq_true, decide_eq_true_eq] at h; exact h.1
        have Hv := Lib.hid (show EqualV l q a b = (match complete l q with
          | none => .tuple #[.int .i64 0, .int .i64 5]
          | some (m, cf) => match nf m a, nf m b with
            | some x, some y => if x = y then .tuple #[.int .i64 1, .int .i64 0] else if cf = true then .tuple #[.int .i64 0, .int .i64 0] else .tuple #[.int .i64 (-1), .int .i64 0]
            | _, _ => .tuple #[.int .i64 0, .int .i64 5]) from by unfold EqualV; rw [if_pos (by simp [Hs.out, Hsa.out, Hsb.out])]; rfl)
        rcases hcm : complete l q with _ | ⟨m, cf⟩
        · rw [hcm] at hc Hv
          obtain ⟨v, b, rfl⟩ := hc
          clear hcm
          go_wp2_with fail
          go_ret2
          refine ⟨?_, Hg1.out.trans Hg2.out⟩
          rw [Hv.out]
          rfl
        · have Hgood := Lib.hid (complete_keep H2.out hcm)
          have h64 : m.length ≤ 64 := Hgood.out.2.2.1
          rw [hcm] at hc Hv
          obtain ⟨v, rfl, hown⟩ := hc
          obtain ⟨A5, c5, rfl, hlc5, hcm5⟩ := Own.slice hown
          have Hat := Lib.hid (Own.at_ encR_ok hown)
          clear hcm hown
          go_wp2_with fail
          refine (forms_any m a b A5 c5 _ (by omega) (by omega) (by omega) Hgood.out.2.1.dec Hat.out).mono ?_
          rintro e w5 ⟨rfl, hg5⟩
          have Hg5 := Lib.hid ((Hg1.out.trans Hg2.out).trans hg5)
          clear hg5
          have Hv2 := Lib.hid (show EqualV l q a b = (match (normal m a).map (·.1), (normal m b).map (·.1) with
            | some x, some y => if x = y then .tuple #[.int .i64 1, .int .i64 0] else if cf = true then .tuple #[.int .i64 0, .int .i64 0] else .tuple #[.int .i64 (-1), .int .i64 0]
            | _, _ => .tuple #[.int .i64 0, .int .i64 5]) from Hv.out)
          rcases hn1 : normal m a with _ | ⟨x1, m1⟩
          · rw [hn1] at Hv2
            simp only [hn1, Option.isSome_none, Bool.false_and]
            clear hn1
            go_wp2_with fail
            go_ret2
            refine ⟨?_, Hg5.out⟩
            rw [Hv2.out]
            rfl
          · rcases hn2 : normal m b with _ | ⟨x2, m2⟩
            · rw [hn1, hn2] at Hv2
              simp only [hn1, hn2, Option.isSome_none, Option.isSome_some, Bool.and_false]
              clear hn1 hn2
              go_wp2_with fail
              go_ret2
              refine ⟨?_, Hg5.out⟩
              rw [Hv2.out]
              rfl
            · rw [hn1, hn2] at Hv2
              simp only [hn1, hn2, Option.isSome_some, Bool.and_self, nfS]
              clear hn1 hn2
              have Hv3 := Lib.hid (show EqualV l q a b = (if x1 = x2 then .tuple #[.int .i64 1, .int .i64 0] else if cf = true then .tuple #[.int .i64 0, .int .i64 0] else .tuple #[.int .i64 (-1), .int .i64 0]) from Hv2.out)
              by_cases hx : x1 = x2
              · subst hx
                rw [if_pos rfl] at Hv3
                go_wp2_with fail
                go_ret2
                refine ⟨?_, Hg5.out⟩
                rw [Hv3.out]
                rfl
              · rw [if_neg hx] at Hv3
                have hx' : (x1 == x2) = false := by simpa using hx
                cases cf
                all_goals
                  go_wp2_with fail
                  go_ret2
                  refine ⟨?_, Hg5.out⟩
                  rw [Hv3.out]
                  rfl
end Go.Proofs.Ytffghamcggadcaa
