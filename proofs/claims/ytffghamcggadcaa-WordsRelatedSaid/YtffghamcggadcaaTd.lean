/- Contracts: the methods of the tidier. -/
import Derived.Test.YtffghamcggadcaaMp
namespace Go.Proofs.Ytffghamcggadcaa
open Go.RowKit Go.Maps
set_option linter.unusedVariables false
set_option linter.unusedSimpArgs false
attribute [local go_sem] B_size B_toList B_append B_extract B_get take_rest
theorem RAt.take {w : World} {A : Option Addr} {l : List Rule} (h : RAt w A l) (i : Nat) : RAt w A (l.take i) := fun j hj => by
  have hj' : j < l.length := by simp at hj; omega
  obtain ⟨ad, e, hc⟩ := h j hj'
  refine ⟨ad, e, fun k u hu => hc k u ?_⟩
  rw [List.getElem_take] at hu
  exact hu
theorem RAt.drop {w : World} {ad : Addr} {l : List Rule} (h : RAt w (some ad) l) (i : Nat) : RAt w (some (ad.add (i * 2))) (l.drop i) := fun j hj => by
  have hj' : i + j < l.length := by simp at hj; omega
  obtain ⟨ad', e, hc⟩ := h (i + j) hj'
  cases e
  refine ⟨_, rfl, fun k u hu => ?_⟩
  rw [List.getElem_drop] at hu
  have := hc k u hu
  rw [add_add']
  rw [show i * 2 + (j * 2 + k) = (i + j) * 2 + k from by omega]
  exact this
theorem Own.base {α : Type} {enc : α → List Value} {sz : Nat} {e : TypeId} {w : World} {b b' : Nat} {v : Value} {l : List α} (h : Own enc sz e w b v l) (hb : b' ≤ b) : Own enc sz e w b' v l := by
  refine ⟨h.1, ?_⟩
  rcases h.2 with h0 | ⟨g, cap, cur, hv, hg, rest⟩
  · exact .inl h0
  · exact .inr ⟨g, cap, cur, hv, Nat.le_trans hb hg, rest⟩
set_option maxHeartbeats 1000000 in
set_option maxRecDepth 20000 in
theorem without_any (l : List Rule) (A : Option Addr) (c tb i : Nat) (w : World) (hn : l.length ≤ 1000000) (hi : i < l.length) (hc : l.length ≤ c) (hl : RAt w A l) (ht : w.cell? ⟨tb, 0, none⟩ = some (.slice A l.length c)) :
    Calls Try.prog 56 #[.pointer (some ⟨tb, 0, none⟩), .int .i64 i] w (GivesR w (l.eraseIdx i)) := by
  obtain ⟨ad, rfl⟩ : ∃ ad, A = some ad := by
    obtain ⟨ad, e, _⟩ := hl i hi
    exact ⟨ad, e⟩
  have hw : IntKind.i64.wrap ((i : Int) + 1) = ((i + 1 : Nat) : Int) := (IntWalk.i64_in _ (by omega)).trans (by omega)
  have hx0 : (0 : Int) ≤ (i : Int) + 1 := by omega
  have hx1 : (i : Int) ≤ (c : Int) := by omega
  have hx2 : ((i + 1 : Nat) : Int) ≤ (l.length : Int) := by omega
  have hx3 : (i : Int) + 1 ≤ (l.length : Int) := by omega
  have hx4 : (i : Int) ≤ (i : Int) + 1 := by omega
  have HF : Hid (∀ w', Gr w w' → w'.cell? ⟨tb, 0, none⟩ = some (.slice (some ad) l.length c)) := fun w' hG => Gr.cell hG ht
  have hl1 : (l.take i).length = i := by simp; omega
  have hl2 : (l.drop (i + 1)).length = l.length - (i + 1) := by simp
  have hidx : l.take i ++ l.drop (i + 1) = l.eraseIdx i := (List.eraseIdx_eq_take_drop_succ l i).symm
  by_cases hci : c = i + 1
  · subst hci
    go_enter Try.func56, Try.ntmps56
    go_wp2_with fail
    refine wp_region_S (fun _ => False) [(0, true), (1, true), (2, true), (3, true), (4, true), (5, true), (6, true), (7, true), (8, true), (9, true), (10, true), (11, true), (12, true), (13, false), (14, false), (15, true)] (by kernel_rfl) (by kernel_rfl) ?_
    iterate 13 (
      refine rp_val (v := ?_) rfl (fun _ _ _ h => h) rfl (fun w' hG => ?_) ?_
      rotate_left
      · have hF := HF.out w' hG
        clear hG
        go_simp
        try with_reducible rfl
      simp only [Act.put, List.setIfInBounds_toArray, List.set_cons_zero, List.set_cons_succ])
    refine rp_loud rfl (by rfl) (fun w1 hG1 K hK => ?_)
    replace hK := Lib.hid hK
    go_simp
    refine hK.out _ _ ((Kp.refl _ _).alloc _) ?_
    clear hK
    refine rp_loud rfl (by rfl) (fun w2 hG2 K hK => ?_)
    replace hK := Lib.hid hK
    go_simp
    have hb := (Blk.gr (Blk.new w1 _ #[_, _]) hG2).two
    have hl3 := ((hl.gr hG1).gr ((Kp.refl _ _).alloc _)).gr hG2
    refine (concat_any (l.take i) (l.drop (i + 1)) (some ad) (some ad) (i + 1) 0 w1.heap.size 2 w2 (by omega) (by omega) (RAt.take hl3 i) (by rw [show l.drop (i + 1) = [] from List.drop_eq_nil_of_le (by omega)]; exact At.nil _ _ _ _) (by rw [hl1]; exact hb.1) (by rw [hl2, show l.length - (i + 1) = 0 from by omega]; exact hb.2.1)).mono ?_
    rintro e w3 ⟨v, rfl, hown, hg3⟩
    refine hK.out _ _ hg3 ?_
    clear hK
    iterate 1 (
      refine rp_val (v := ?_) rfl (fun _ _ _ h => h) rfl (fun w' hG => ?_) ?_
      rotate_left
      · clear hG
        go_simp
        try with_reducible rfl
      simp only [Act.put, List.setIfInBounds_toArray, List.set_cons_zero, List.set_cons_succ])
    refine rp_done fun w4 hG4 => ?_
    go_wp2
    go_ret
    rw [hidx] at hown
    exact ⟨_, rfl, (hown.gr hG4).base (Kp.size ((hG1.trans ((Kp.refl _ _).alloc _)).trans hG2)), (((hG1.trans ((Kp.refl _ _).alloc _)).trans hG2).trans hg3).trans hG4⟩
  · go_enter Try.func56, Try.ntmps56
    go_wp2_with fail
    refine wp_region_S (fun _ => False) [(0, true), (1, true), (2, true), (3, true), (4, true), (5, true), (6, true), (7, true), (8, true), (9, true), (10, true), (11, true), (12, true), (13, false), (14, false), (15, true)] (by kernel_rfl) (by kernel_rfl) ?_
    iterate 13 (
      refine rp_val (v := ?_) rfl (fun _ _ _ h => h) rfl (fun w' hG => ?_) ?_
      rotate_left
      · have hF := HF.out w' hG
        clear hG
        go_simp
        try with_reducible rfl
      simp only [Act.put, List.setIfInBounds_toArray, List.set_cons_zero, List.set_cons_succ])
    refine rp_loud rfl (by rfl) (fun w1 hG1 K hK => ?_)
    replace hK := Lib.hid hK
    go_simp
    refine hK.out _ _ ((Kp.refl _ _).alloc _) ?_
    clear hK
    refine rp_loud rfl (by rfl) (fun w2 hG2 K hK => ?_)
    replace hK := Lib.hid hK
    go_simp
    have hb := (Blk.gr (Blk.new w1 _ #[_, _]) hG2).two
    have hl3 := ((hl.gr hG1).gr ((Kp.refl _ _).alloc _)).gr hG2
    refine (concat_any (l.take i) (l.drop (i + 1)) (some ad) (some (ad.add ((i + 1) * 2))) c (c - (i + 1)) w1.heap.size 2 w2 (by omega) (by omega) (RAt.take hl3 i) (RAt.drop hl3 (i + 1)) (by rw [hl1]; exact hb.1) (by rw [hl2]; exact hb.2.1)).mono ?_
    rintro e w3 ⟨v, rfl, hown, hg3⟩
    refine hK.out _ _ hg3 ?_
    clear hK
    iterate 1 (
      refine rp_val (v := ?_) rfl (fun _ _ _ h => h) rfl (fun w' hG => ?_) ?_
      rotate_left
      · clear hG
        go_simp
        try with_reducible rfl
      simp only [Act.put, List.setIfInBounds_toArray, List.set_cons_zero, List.set_cons_succ])
    refine rp_done fun w4 hG4 => ?_
    go_wp2
    go_ret
    rw [hidx] at hown
    exact ⟨_, rfl, (hown.gr hG4).base (Kp.size ((hG1.trans ((Kp.refl _ _).alloc _)).trans hG2)), (((hG1.trans ((Kp.refl _ _).alloc _)).trans hG2).trans hg3).trans hG4⟩
end Go.Proofs.Ytffghamcggadcaa
