/- Contract: Normal. -/
import Derived.Test.YtffghamcggadcaaCq
namespace Go.Proofs.Ytffghamcggadcaa
open Go.RowKit Go.Maps
set_option linter.unusedVariables false
set_option linter.unusedSimpArgs false
attribute [local go_sem] B_size B_toList B_append B_extract B_get take_rest
def NormalV (l : List Rule) (s : Str) : Value := if (isSystem l && isString s) = true then (match normal l s with
  | none => .tuple #[.string (B []), .int .i64 0, .int .i64 5]
  | some (t, n) => .tuple #[.string (B t), .int .i64 n, .int .i64 0]) else .tuple #[.string (B []), .int .i64 0, .int .i64 2]
set_option maxHeartbeats 4000000 in
set_option maxRecDepth 20000 in
theorem Normal_any (l : List Rule) (s : Str) (A : Option Addr) (c : Nat) (w : World) (hn : l.length ≤ 1000000000) (hs : s.length ≤ 1000000000) (hL : Lens l) (hl : RAt w A l) :
    Calls Try.prog 17 #[.slice A l.length c, .string (B s)] w fun e w' => e = .returned (NormalV l s) ∧ Gr w w' := by
  have Hl := Lib.hid hl
  have HL := Lib.hid hL
  clear hL hl
  go_enter Try.func17, Try.ntmps17
  go_wp2_with fail
  refine (isSystem_any l A c _ hn HL.out Hl.out).mono ?_
  rintro e w1 ⟨rfl, hg1⟩
  have Hg1 := Lib.hid hg1
  clear hg1
  rcases hy : isSystem l with _ | _
  · have Hy := Lib.hid hy
    clear hy
    go_wp2_with fail
    go_ret3
    refine ⟨?_, Hg1.out⟩
    unfold NormalV
    rw [if_neg (by simp [Hy.out])]
    rfl
  · have Hy := Lib.hid hy
    clear hy
    go_wp2_with fail
    refine (isString_any s _ hs).mono ?_
    rintro e w2 ⟨rfl, rfl⟩
    rcases hz : isString s with _ | _
    · have Hz := Lib.hid hz
      clear hz
      go_wp2_with fail
      go_ret3
      refine ⟨?_, Hg1.out⟩
      unfold NormalV
      rw [if_neg (by simp [Hz.out])]
      rfl
    · have Hz := Lib.hid hz
      clear hz
      go_wp2_with fail
      refine (normal_any l s A c _ hs hn (isSystem_tame Hy.out).dec (Hl.out.gr Hg1.out)).mono ?_
      rintro e w3 ⟨rfl, hg3⟩
      have Hg3 := Lib.hid hg3
      clear hg3
      have Hv := Lib.hid (show NormalV l s = (match normal l s with
        | none => .tuple #[.string (B []), .int .i64 0, .int .i64 5]
        | some (t, n) => .tuple #[.string (B t), .int .i64 n, .int .i64 0]) from by unfold NormalV; rw [if_pos (by simp [Hy.out, Hz.out])])
      rcases hm : normal l s with _ | ⟨t, n⟩
      all_goals
        rw [hm] at Hv
        clear hm
        simp only [normV]
        go_wp2_with fail
        go_ret3
        refine ⟨?_, Hg1.out.trans Hg3.out⟩
        rw [Hv.out]
        rfl
end Go.Proofs.Ytffghamcggadcaa
