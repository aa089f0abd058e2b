/- Contracts: Complete, Equal. -/
import Derived.Test.YtffghamcggadcaaCm
namespace Go.Proofs.Ytffghamcggadcaa
open Go.RowKit Go.Maps
set_option linter.unusedVariables false
set_option linter.unusedSimpArgs false
attribute [local go_sem] B_size B_toList B_append B_extract B_get take_rest
theorem areEqs_lens {l : List Rule} {k : Int} (h : areEqs l k = true) : l.length ≤ 64 ∧ (∀ r ∈ l, r.1.length ≤ 24 ∧ r.2.length ≤ 24) ∧ 0 ≤ k ∧ k ≤ 12 := by
  unfold areEqs isEq isSide at h
  simp only [Bool.and_eq_true, decide_eq_true_eq, List.all_eq_true] at h
  exact ⟨h.1.1.1, fun r hr => ⟨(h.1.1.2 r hr).1.1, (h.1.1.2 r hr).2.1⟩, h.1.2, h.2⟩
def CompleteV (base : Nat) (l : List Rule) (k : Int) (e : Ending) (w' : World) : Prop := if areEqs l k = true then (match complete l k.toNat with
  | none => e = .returned (.tuple #[.slice none 0 0, .bool false, .int .i64 5])
  | some (m, b) => ∃ v, e = .returned (.tuple #[v, .bool b, .int .i64 0]) ∧ OwnR w' base v m) else e = .returned (.tuple #[.slice none 0 0, .bool false, .int .i64 2])
set_option maxHeartbeats 4000000 in
set_option maxRecDepth 20000 in
theorem Complete_any (l : List Rule) (k : Int) (A : Option Addr) (c : Nat) (w : World) (hn : l.length ≤ 1000000000) (hk : -9223372036854775808 ≤ k ∧ k ≤ 9223372036854775807) (hL : Lens l) (hl : RAt w A l) (hz : 0 < w.heap.size) (hg : Glob w) :
    Calls Try.prog 8 #[.slice A l.length c, .int .i64 k] w fun e w' => CompleteV w.heap.size l k e w' ∧ Gr w w' := by
  have Hl := Lib.hid hl
  have HL := Lib.hid hL
  have Hg := Lib.hid hg
  clear hL hl hg
  go_enter Try.func8, Try.ntmps8
  go_wp2_with fail
  refine (areEquations_any l k A c w hn HL.out Hl.out).mono ?_
  rintro e w1 ⟨rfl, hg1⟩
  have Hg1 := Lib.hid hg1
  clear hg1
  rcases hs : areEqs l k with _ | _
  · have Hs := Lib.hid hs
    clear hs
    go_wp2_with fail
    go_ret3
    refine ⟨?_, Hg1.out⟩
    unfold CompleteV
    rw [if_neg (by simp [Hs.out])]
    rfl
  · obtain ⟨h1, h2, h3, h4⟩ := areEqs_lens hs
    have Hs := Lib.hid hs
    have H2 := Lib.hid h2
    clear hs h2
    obtain ⟨q, rfl⟩ : ∃ q : Nat, k = q := ⟨k.toNat, by omega⟩
    go_wp2_with fail
    refine (complete_any l q A c w1 h1 (by omega) H2.out (Hl.out.gr Hg1.out) (by have := Hg1.out.size; omega) (Hg.out.kp Hg1.out (fun h => h))).mono ?_
    rintro e w2 ⟨hc, hg2⟩
    have Hg2 := Lib.hid hg2
    clear hg2
    have Hv := Lib.hid (show CompleteV w.heap.size l q = fun e w' => match complete l q with
      | none => e = .returned (.tuple #[.slice none 0 0, .bool false, .int .i64 5])
      | some (m, b) => ∃ v, e = .returned (.tuple #[v, .bool b, .int .i64 0]) ∧ OwnR w' w.heap.size v m from by funext e w'; unfold CompleteV; rw [if_pos Hs.out]; rfl)
    rcases hcm : complete l q with _ | ⟨m, b⟩
    · rw [hcm] at hc Hv
      obtain ⟨v, b, rfl⟩ := hc
      clear hcm
      go_wp2_with fail
      go_ret3
      refine ⟨?_, Hg1.out.trans Hg2.out⟩
      rw [Hv.out]
      rfl
    · rw [hcm] at hc Hv
      obtain ⟨v, rfl, hown⟩ := hc
      have Hown := Lib.hid (hown.base Hg1.out.size)
      clear hcm hown
      go_wp2_with fail
      go_ret3
      refine ⟨?_, Hg1.out.trans Hg2.out⟩
      rw [Hv.out]
      exact ⟨v, rfl, Hown.out⟩
end Go.Proofs.Ytffghamcggadcaa
