/- Contracts: Clone, Grow of nil, Concat of two, at rules. Conditions: lengths stay far below the model's bounds. -/
import Derived.Test.YtffghamcggadcaaOw
namespace Go.Proofs.Ytffghamcggadcaa
open Go.RowKit
set_option linter.unusedVariables false
set_option linter.unusedSimpArgs false
attribute [local go_sem] B_size B_toList B_append B_extract B_get take_rest
def GivesR (w : World) (l : List Rule) (e : Ending) (w' : World) : Prop := ∃ v, e = .returned v ∧ OwnR w' w.heap.size v l ∧ Gr w w'
theorem At.none_nil {α : Type} {enc : α → List Value} {sz : Nat} {w : World} {l : List α} (h : At enc sz w none l) : l = [] := by
  rcases l with _ | ⟨x, l⟩
  · rfl
  · obtain ⟨ad, h, _⟩ := h 0 (by simp); cases h
set_option maxHeartbeats 1000000 in
set_option maxRecDepth 20000 in
theorem clone_any (l : List Rule) (A : Option Addr) (c : Nat) (w : World) (hn : l.length ≤ 1000000000) (hl : RAt w A l) :
    Calls Try.prog 51 #[.slice A l.length c] w (GivesR w l) := by
  have Hl := Lib.hid hl
  clear hl
  rcases A with _ | ad
  · obtain rfl := Hl.out.none_nil
    have hq := fun w : World => Lib.run_eql_slice_nil (P := Try.prog) w 25 24 none 0 c 0 0 Try.underlying25
    go_enter Try.func51, Try.ntmps51
    go_wp2
    go_ret
    exact ⟨_, rfl, Own.nil _ _ _ _ _, Kp.refl _ _⟩
  · have hq := fun w : World => Lib.run_eql_slice_nil (P := Try.prog) w 25 24 (some ad) l.length c 0 0 Try.underlying25
    go_enter Try.func51, Try.ntmps51
    have hown : OwnR (w.alloc (.cells #[] 24)) w.heap.size (.slice (some ⟨w.heap.size, 0, none⟩) 0 0) [] := own_alloc encR_ok (Nat.le_refl _) [] #[] 0 (by simp) (by simp [maxLen]) rfl rfl
    have Hown := Lib.hid hown
    clear hown
    go_wp2_with (at_builtin; refine wpl_append (l := []) (m := l) (base := w.heap.size) rfl encR_ok elemR _ _ rfl rfl Hown.out c rfl (by exact Hl.out.gr ((Kp.refl _ _).alloc _)) (by simp; omega) (by simp) ?_; intro v1 w1 hown1 hk1 hb1; have Hown1 := Lib.hid hown1; have Hk1 := Lib.hid hk1; clear hown1 hk1 hb1)
    go_ret
    refine ⟨_, rfl, by simpa using Hown1.out, Gr.kp ((Kp.refl _ _).alloc _) Hk1.out (fun i h1 h2 => ?_)⟩
    cases h2
    exact absurd h1 (by simp)
set_option maxHeartbeats 1000000 in
set_option maxRecDepth 20000 in
theorem grow_any (n : Nat) (w : World) (hn : n ≤ 1000000000) :
    Calls Try.prog 91 #[.slice none 0 0, .int .i64 n] w (GivesR w []) := by
  by_cases h0 : n = 0
  · subst h0
    go_enter Try.func91, Try.ntmps91
    go_wp2
    go_ret
    exact ⟨_, rfl, Own.nil _ _ _ _ _, Kp.refl _ _⟩
  · have hp : 0 < n := by omega
    clear h0
    obtain ⟨c, w1, hrun, hown, hg⟩ := run_append_zeros (P := Try.prog) (A := none) (l := []) (w := w) encR_ok elemR (z := .agg #[.string ⟨#[]⟩, .string ⟨#[]⟩]) (zr := ([], [])) (by kernel_rfl) rfl 3 25 Try.underlying3 0 n (At.nil _ _ _ _) hp (by simpa using hp) (by simp; omega)
    simp only [List.length_nil, Nat.zero_add, List.nil_append] at hrun hown
    have Hrun := Lib.hid hrun
    have Hown := Lib.hid hown
    have Hg := Lib.hid hg
    clear hrun hown hg
    go_enter Try.func91, Try.ntmps91
    go_wp2_with (at_builtin; refine Lib.wpList_append_run _ rfl _ _ _ _ rfl _ _ rfl rfl _ _ Hrun.out ?_)
    go_ret
    have h1 := Own.cut (k := 0) encR_ok Hown.out (by simp)
    rw [List.take_zero] at h1
    exact ⟨_, rfl, h1, Hg.out⟩
set_option maxHeartbeats 1000000 in
set_option maxRecDepth 20000 in
theorem concat_any (l1 l2 : List Rule) (A1 A2 : Option Addr) (c1 c2 g c : Nat) (w : World) (hn1 : l1.length ≤ 100000000) (hn2 : l2.length ≤ 100000000) (hl1 : RAt w A1 l1) (hl2 : RAt w A2 l2)
    (h0 : w.cell? ⟨g, 0, none⟩ = some (.slice A1 l1.length c1)) (h1 : w.cell? ⟨g, 1, none⟩ = some (.slice A2 l2.length c2)) :
    Calls Try.prog 71 #[.slice (some ⟨g, 0, none⟩) 2 c] w (GivesR w (l1 ++ l2)) := by
  have Hl1 := Lib.hid hl1
  have Hl2 := Lib.hid hl2
  clear hl1 hl2
  go_enter Try.func71, Try.ntmps71
  go_wp2
  refine wp_loop_rounds 3 ?_
  rw [rounds_succ]
  go_wp2
  rw [rounds_succ]
  go_wp2
  rw [rounds_succ]
  go_wp2_with fail
  refine (grow_any (l1.length + l2.length) _ (by omega)).mono ?_
  rintro e w1 ⟨v, rfl, hown, hg⟩
  have Hown := Lib.hid hown
  have k0 := Gr.cell hg h0
  have k1 := Gr.cell hg h1
  have Hg := Lib.hid hg
  clear hown hg
  obtain ⟨A, cv, rfl, hcap, hcm⟩ := Hown.out.slice
  clear hcap hcm
  simp only [List.length_nil] at Hown
  have hgl : g < w.heap.size := World.block_lt_of_cell? w _ h0
  have hng : ¬ (Value.slice A 0 cv).ownBlock = some g := fun h => by have := (Own.lt Hown.out h).1; omega
  go_wp2
  refine wp_loop_rounds 3 ?_
  rw [rounds_succ]
  go_wp2_with (at_builtin; refine wpl_append (l := []) (m := l1) (v := .slice A 0 cv) (base := w.heap.size) rfl encR_ok elemR _ _ rfl rfl Hown.out c1 rfl (by exact Hl1.out.gr Hg.out) (by simp; omega) (by exact Hg.out.size) ?_; intro v1 w2 hown1 hk1 hb1; have Hown1 := Lib.hid hown1; have Hk1 := Lib.hid hk1; clear hown1 hk1 hb1)
  have Hg2 := Lib.hid (Gr.kp Hg.out Hk1.out (fun i h1 h2 => by have := (Own.lt Hown.out h2).1; omega))
  have k2 := Kp.cell Hk1.out k1 hng
  rw [List.nil_append] at Hown1
  rw [rounds_succ]
  go_wp2_with (at_builtin; refine wpl_append (l := l1) (m := l2) (v := v1) (base := w.heap.size) rfl encR_ok elemR _ _ rfl rfl Hown1.out c2 rfl (by exact Hl2.out.gr Hg2.out) (by omega) (by exact Hg2.out.size) ?_; intro v2 w3 hown2 hk2 hb2; have Hown2 := Lib.hid hown2; have Hk2 := Lib.hid hk2; clear hown2 hk2 hb2)
  rw [rounds_succ]
  go_wp2
  go_ret
  exact ⟨_, rfl, Hown2.out, Gr.kp Hg2.out Hk2.out (fun i h1 h2 => by have := (Own.lt Hown1.out h2).1; omega)⟩
end Go.Proofs.Ytffghamcggadcaa
