/- Contract: awake. -/
import Derived.Test.YtffghamcggadcaaL1
import Derived.Test.YtffghamcggadcaaA6
import Derived.KernelRfl
namespace Go.Proofs.Ytffghamcggadcaa
open Go.RowKit Go.Maps
set_option linter.unusedVariables false
set_option linter.unusedSimpArgs false
attribute [local go_sem] B_size B_toList B_append B_extract B_get take_rest
def awL : List Rule := [([98, 97], [97, 98]), ([97, 97], [])]
def awE : List Rule := [([97, 97, 97], []), ([98, 98], []), ([98, 97], [97, 97, 98])]
def awX : List Rule := (match complete awE 6 with | some (x, _) => x | none => [])
set_option maxRecDepth 100000 in
theorem awNormal : NormalV awL [98, 97, 98, 97, 98] = .tuple #[.string (B [98, 98, 98]), .int .i64 4, .int .i64 0] := by
  have h1 : (isSystem awL && isString [98, 97, 98, 97, 98]) = true := by kernel_rfl
  have h2 : normal awL [98, 97, 98, 97, 98] = some ([98, 98, 98], 4) := by kernel_rfl
  unfold NormalV
  rw [if_pos h1, h2]
  rfl
set_option maxRecDepth 100000 in
theorem awClash : ClashV awL = .tuple #[.int .i64 (-1), .int .i64 0] := by
  have h1 : isSystem awL = true := by kernel_rfl
  have h2 : clash awL = some none := by kernel_rfl
  unfold ClashV
  rw [if_pos h1, h2]
set_option maxRecDepth 100000 in
theorem awComplete : complete awE 6 = some (awX, true) := by kernel_rfl
set_option maxRecDepth 100000 in
theorem awSize : SizeV awX 2 = .tuple #[.int .i64 6, .int .i64 0] := by
  have h1 : isCounted awX 2 = true := by kernel_rfl
  have h2 : sizeS awX 2 = some 6 := by kernel_rfl
  unfold SizeV
  rw [if_pos h1, show (2 : Int).toNat = 2 from rfl, h2]
set_option maxRecDepth 100000 in
theorem awLens : Lens awL ∧ Lens awE ∧ Lens awX ∧ awX.length ≤ 1000 ∧ areEqs awE 6 = true := by
  refine ⟨?_, ?_, ?_, ?_, by kernel_rfl⟩
  · intro r hr
    simp [awL] at hr
    rcases hr with rfl | rfl <;> simp
  · intro r hr
    simp [awE] at hr
    rcases hr with rfl | rfl | rfl <;> simp
  · have h := complete_keep (l := awE) (fun r hr => by simp [awE] at hr; rcases hr with rfl | rfl | rfl <;> simp) awComplete
    intro r hr
    have := h.2.1 r hr
    omega
  · have h := complete_keep (l := awE) (fun r hr => by simp [awE] at hr; rcases hr with rfl | rfl | rfl <;> simp) awComplete
    have := h.2.2.1
    omega
set_option maxHeartbeats 4000000 in
set_option maxRecDepth 20000 in
theorem awake_any (w : World) (hz : 0 < w.heap.size) (hg : Glob w) :
    Calls Try.prog 13 #[] w fun e w' => e = .returned (.bool true) ∧ Gr w w' := by
  obtain ⟨hl1, hl2, hl3, hl4, hl5⟩ := awLens
  have HL1 := Lib.hid hl1
  have HL2 := Lib.hid hl2
  have HL3 := Lib.hid hl3
  have HL5 := Lib.hid hl5
  clear hl1 hl2 hl3 hl5
  have Hg := Lib.hid hg
  clear hg
  have hat1 := Lib.hid (At.of_blk (l := awL) encR_ok (Blk.new w 24 #[.string (B [98, 97]), .string (B [97, 98]), .string (B [97, 97]), .string (B [])]))
  have hg1 : Gr w (w.alloc (.cells #[.string (B [98, 97]), .string (B [97, 98]), .string (B [97, 97]), .string (B [])] 24)) := (Kp.refl _ _).alloc _
  have Hg1 := Lib.hid hg1
  clear hg1
  go_enter Try.func13, Try.ntmps13
  go_wp2_with fail
  refine (Normal_any awL [98, 97, 98, 97, 98] _ 2 _ (by simp [awL]) (by simp) HL1.out hat1.out).mono ?_
  rintro e w2 ⟨rfl, hg2⟩
  rw [awNormal]
  have Hg2 := Lib.hid (Hg1.out.trans hg2)
  have hat2 := Lib.hid (hat1.out.gr hg2)
  clear hg2
  go_wp2_with fail
  refine (Clash_any awL _ 2 _ (by simp [awL]) HL1.out hat2.out).mono ?_
  rintro e w3 ⟨rfl, hg3⟩
  rw [awClash]
  have Hg3 := Lib.hid (Hg2.out.trans hg3)
  clear hg3
  go_wp2_with fail
  have hat4 := At.of_blk (l := awE) encR_ok (Blk.new w3 24 #[.string ⟨#[97, 97, 97]⟩, .string ⟨#[]⟩, .string ⟨#[98, 98]⟩, .string ⟨#[]⟩, .string ⟨#[98, 97]⟩, .string ⟨#[97, 97, 98]⟩])
  have Hg4 := Lib.hid (Hg3.out.alloc (.cells #[.string ⟨#[97, 97, 97]⟩, .string ⟨#[]⟩, .string ⟨#[98, 98]⟩, .string ⟨#[]⟩, .string ⟨#[98, 97]⟩, .string ⟨#[97, 97, 98]⟩] 24))
  refine (Complete_any awE 6 _ 3 _ (by simp [awE]) (by omega) HL2.out hat4 (by have := Hg4.out.size; omega) (Hg.out.kp Hg4.out (fun h => h))).mono ?_
  rintro e w5 ⟨hc, hg5⟩
  clear hat4
  have Hg5 := Lib.hid (Hg4.out.trans hg5)
  clear hg5
  unfold CompleteV at hc
  rw [if_pos HL5.out, show (6 : Int).toNat = 6 from rfl, awComplete] at hc
  obtain ⟨v, rfl, hown⟩ := hc
  obtain ⟨A5, c5, rfl, hlc5, hcm5⟩ := Own.slice hown
  have Hat5 := Lib.hid (Own.at_ encR_ok hown)
  clear hown hlc5 hcm5
  go_wp2_with fail
  refine (Size_any awX 2 A5 c5 _ (by omega) (by omega) HL3.out Hat5.out).mono ?_
  rintro e w6 ⟨rfl, hg6⟩
  rw [awSize]
  have Hg6 := Lib.hid (Hg5.out.trans hg6)
  clear hg6
  have hbb : (([98, 98, 98] : Str) == [98, 98, 98]) = true := rfl
  go_wp2
  go_ret
  exact ⟨rfl, Hg6.out⟩
end Go.Proofs.Ytffghamcggadcaa
