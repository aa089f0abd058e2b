/- Contracts: pairs, Pairs. -/
import Derived.Test.YtffghamcggadcaaOv
namespace Go.Proofs.Ytffghamcggadcaa
open Go.RowKit Go.Maps
set_option linter.unusedVariables false
set_option linter.unusedSimpArgs false
attribute [local go_sem] B_size B_toList B_append B_extract B_get take_rest
def rowTo (l : List Rule) (i : Nat) (a : Rule) (n : Nat) : List (Str × Str) := (l.zipIdx.take n).flatMap fun q => overlaps a q.1 (i == q.2)
def pairsTo (l : List Rule) (n : Nat) : List (Str × Str) := (l.zipIdx.take n).flatMap fun p => l.zipIdx.flatMap fun q => overlaps p.1 q.1 (p.2 == q.2)
theorem zipIdx_take_succ (l : List Rule) (n : Nat) (h : n < l.length) : l.zipIdx.take (n + 1) = l.zipIdx.take n ++ [(l[n], n)] := by
  rw [List.take_succ_eq_append_getElem (by simpa using h)]
  simp
theorem rowTo_succ (l : List Rule) (i : Nat) (a : Rule) (n : Nat) (h : n < l.length) : rowTo l i a (n + 1) = rowTo l i a n ++ overlaps a l[n] (i == n) := by
  unfold rowTo
  rw [zipIdx_take_succ l n h, List.flatMap_append]
  simp
theorem rowTo_all (l : List Rule) (i : Nat) (a : Rule) : rowTo l i a l.length = l.zipIdx.flatMap fun q => overlaps a q.1 (i == q.2) := by
  unfold rowTo
  rw [List.take_of_length_le (by simp)]
theorem pairsTo_succ (l : List Rule) (n : Nat) (h : n < l.length) : pairsTo l (n + 1) = pairsTo l n ++ rowTo l n l[n] l.length := by
  unfold pairsTo
  rw [zipIdx_take_succ l n h, List.flatMap_append, rowTo_all]
  simp
theorem pairsTo_all (l : List Rule) : pairsTo l l.length = pairs l := by
  unfold pairsTo pairs
  rw [List.take_of_length_le (by simp)]
theorem flatMap_len {α β : Type} (f : α → List β) (c : Nat) : ∀ (m : List α), (∀ x ∈ m, (f x).length ≤ c) → (m.flatMap f).length ≤ m.length * c
  | [], _ => by simp
  | x :: m, h => by
    have h1 := flatMap_len f c m (fun y hy => h y (List.mem_cons_of_mem _ hy))
    have h2 := h x List.mem_cons_self
    simp only [List.flatMap_cons, List.length_append, List.length_cons, Nat.add_mul]
    omega
theorem overlaps_len (a b : Rule) (s : Bool) : (overlaps a b s).length ≤ a.1.length + a.1.length := by
  unfold overlaps
  rw [List.length_append]
  have h1 := oversTo_len a b s (min a.1.length b.1.length)
  have h2 : (overs a b s).length ≤ min a.1.length b.1.length := h1
  have h3 := innersTo_len a b (a.1.length - b.1.length - 1)
  have h4 : (inners a b s).length ≤ a.1.length - b.1.length - 1 := by
    unfold inners
    split
    · simp
    · exact h3
  omega
theorem rowTo_len (l : List Rule) (i : Nat) (a : Rule) (n : Nat) (hl : l.length ≤ 64) (ha : a.1.length ≤ 24) : (rowTo l i a n).length ≤ 64 * 48 := by
  refine Nat.le_trans (flatMap_len _ 48 _ fun q _ => Nat.le_trans (overlaps_len _ _ _) (by omega)) (Nat.mul_le_mul_right _ ?_)
  simp
  omega
theorem pairsTo_len (l : List Rule) (n : Nat) (hl : l.length ≤ 64) (ht : Tame 24 l) : (pairsTo l n).length ≤ 64 * (64 * 48) := by
  refine Nat.le_trans (flatMap_len _ (64 * 48) _ fun p hp => ?_) (Nat.mul_le_mul_right _ (by simp; omega))
  rw [← rowTo_all]
  have hm : p ∈ l.zipIdx := List.mem_of_mem_take hp
  have := List.mem_zipIdx hm
  exact rowTo_len l p.2 p.1 l.length hl (ht p.1 (by obtain ⟨h1, h2, h3⟩ := this; rw [h3]; exact List.getElem_mem _)).2
set_option maxHeartbeats 4000000 in
set_option maxRecDepth 20000 in
theorem pairs_any (l : List Rule) (A : Option Addr) (c : Nat) (w : World) (hn : l.length ≤ 64) (ht : Tame 24 l) (hl : RAt w A l) :
    Calls Try.prog 62 #[.slice A l.length c] w (GivesP w (pairs l)) := by
  have Hl := Lib.hid hl
  have Ht := Lib.hid ht
  clear hl ht
  go_enter Try.func62, Try.ntmps62
  go_wp2
  go_loopw [3, 10] (fun v vi wr => ∃ (i : Nat) (u : Value), u = v ∧ i ≤ l.length ∧ vi = .int .i64 i ∧ Hid (OwnP wr w.heap.size v (pairsTo l i)) ∧ Hid (Gr w wr)) (fun _ vi _ => l.length - (intOf vi).toNat)
  case atStart => exact ⟨0, _, rfl, by omega, rfl, Own.nil _ _ _ _ _, Kp.refl _ _⟩
  case round =>
    obtain ⟨i, u, hu, hi, rfl, hown, hg⟩ := hrel
    subst hu
    by_cases hlt : i < l.length
    · obtain ⟨ad, rfl, h0, h1⟩ := RAt.get (Hl.out.gr hg.out) hlt
      go_wp2
      have hai := Ht.out l[i] (List.getElem_mem hlt)
      have hba := Lib.hid (Blk.new wr 24 #[.string (B l[i].1), .string (B l[i].2)])
      have hna : u.ownBlock ≠ some wr.heap.size := fun h => by have := (Own.lt hown.out h).2; omega
      have hgw : Gr w (wr.alloc (.cells #[.string (B l[i].1), .string (B l[i].2)] 24)) := hg.out.alloc _
      have hown0 : Hid (OwnP (wr.alloc (.cells #[.string (B l[i].1), .string (B l[i].2)] 24)) w.heap.size u (pairsTo l i ++ rowTo l i l[i] 0)) := by
        have e : pairsTo l i ++ rowTo l i l[i] 0 = pairsTo l i := by simp [rowTo]
        rw [e]
        exact hown.out.gr ((Kp.refl _ _).alloc _)
      obtain ⟨ba, hbae⟩ : ∃ ba, ba = wr.heap.size := ⟨_, rfl⟩
      have hba0 : w.heap.size ≤ ba := by have := hg.out.size; omega
      rw [← hbae] at hba hna ⊢
      clear hbae
      go_loopw [3, 17] (fun v vj wr2 => ∃ (j : Nat) (u2 : Value), u2 = v ∧ j ≤ l.length ∧ vj = .int .i64 j ∧ Hid (OwnP wr2 w.heap.size v (pairsTo l i ++ rowTo l i l[i] j)) ∧ Hid (Gr w wr2) ∧ Hid (Blk wr2 ba 24 #[.string (B l[i].1), .string (B l[i].2)]) ∧ u2.ownBlock ≠ some ba) (fun _ vj _ => l.length - (intOf vj).toNat)
      case atStart => exact ⟨0, _, rfl, by omega, rfl, hown0, hgw, hba, hna⟩
      case round =>
        obtain ⟨j, u2, hu2, hj, rfl, hown2, hg2, hba2, hna2⟩ := hrel
        subst hu2
        have hb2 := hba2.out.two
        by_cases hlt2 : j < l.length
        · obtain ⟨ad2, had, g0, g1⟩ := RAt.get (Hl.out.gr hg2.out) hlt2
          cases had
          have hbj := Lib.hid (Blk.new wr 24 #[.string (B l[j].1), .string (B l[j].2)])
          have q0 : ∀ o, (wr.alloc o).cell? ⟨ba, 0, none⟩ = some (.string (B l[i].1)) := fun o => (hba2.out.alloc o).two.1
          have q1 : ∀ o, (wr.alloc o).cell? ⟨ba, 1, none⟩ = some (.string (B l[i].2)) := fun o => (hba2.out.alloc o).two.2.1
          have hij : ((i : Int) == (j : Int)) = (i == j) := by
            rw [Bool.eq_iff_iff, beq_iff_eq, beq_iff_eq]
            omega
          have hli := Ht.out l[i] (List.getElem_mem hlt)
          have hlj := Ht.out l[j] (List.getElem_mem hlt2)
          have Hij := Lib.hid hij
          clear hij
          go_wp2_with fail
          rw [Hij.out]
          refine (overlaps_any l[i] l[j] (i == j) _ ⟨by omega, by omega⟩ ⟨by omega, by omega⟩ (by omega) (by omega)).mono ?_
          rintro e w3 ⟨v3, rfl, hown3, hg3⟩
          obtain ⟨A3, c3, rfl, hlc3, hcm3⟩ := Own.slice hown3
          have Hat3 := Lib.hid (Own.at_ encR_ok hown3)
          have Hown3 := Lib.hid ((hown2.out.gr ((Kp.refl _ _).alloc _)).gr hg3)
          have Hba3 := Lib.hid ((hba2.out.alloc _).gr hg3)
          have Hg3 := Lib.hid ((hg2.out.alloc _).trans hg3)
          have hlen : (pairsTo l i ++ rowTo l i l[i] j).length + (overlaps l[i] l[j] (i == j)).length ≤ 2000000000 := by
            have h1 := pairsTo_len l i hn Ht.out
            have h2 := rowTo_len l i l[i] j hn (by omega)
            have h3 := overlaps_len l[i] l[j] (i == j)
            rw [List.length_append]
            omega
          clear hown3 hg3
          go_wp2_with (at_builtin; refine wpl_append (l := pairsTo l i ++ rowTo l i l[i] j) (m := overlaps l[i] l[j] (i == j)) (v := u2) (base := w.heap.size) rfl encR_ok elemP _ _ rfl rfl Hown3.out c3 rfl Hat3.out hlen Hg3.out.size ?_; intro v4 w4 hown4 hk4 hb4; replace hown4 := Lib.hid hown4; replace hk4 := Lib.hid hk4; replace hb4 := Lib.hid hb4)
          refine ⟨⟨j + 1, _, rfl, by omega, by go_num, ?_, ?_, ?_, ?_⟩, by simp [intOf]; omega⟩
          · rw [rowTo_succ l i l[i] j hlt2, ← List.append_assoc]
            exact hown4.out
          · exact Gr.kp Hg3.out hk4.out (fun k h1 h2 => by have := (Own.lt Hown3.out h2).1; omega)
          · exact Hba3.out.kp hk4.out hna2
          · rcases hb4.out with h | h
            · rw [h]; exact hna2
            · rw [h]; intro h'; injection h' with h'; have := Hba3.out.lt; omega
        · go_wp2_with fail
          refine ⟨⟨i + 1, _, rfl, by omega, by go_num, ?_, hg2⟩, by simp [intOf]; omega⟩
          rw [pairsTo_succ l i hlt, show l.length = j from by omega]
          exact hown2.out
    · go_wp2
      go_ret
      refine ⟨_, rfl, ?_, hg.out⟩
      rw [← pairsTo_all, show l.length = i from by omega]
      exact hown.out
end Go.Proofs.Ytffghamcggadcaa
