/- Contract: the pairs of two rules. -/
import Derived.Test.YtffghamcggadcaaEx
namespace Go.Proofs.Ytffghamcggadcaa
open Go.RowKit Go.Maps
set_option linter.unusedVariables false
set_option linter.unusedSimpArgs false
attribute [local go_sem] B_size B_toList B_append B_extract B_get take_rest
def oversTo (a b : Rule) (same : Bool) (n : Nat) : List (Str × Str) :=
  ((List.range n).filter fun k => suf (b.1.take (k + 1)) a.1 && !(same && k + 1 == a.1.length)).map
    fun k => (a.2 ++ b.1.drop (k + 1), a.1.take (a.1.length - (k + 1)) ++ b.2)
def innersTo (a b : Rule) (n : Nat) : List (Str × Str) :=
  ((List.range n).filter fun k => pre b.1 (a.1.drop (k + 1))).map fun k => (a.2, replaced a.1 (k + 1) b)
theorem oversTo_succ (a b : Rule) (same : Bool) (n : Nat) : oversTo a b same (n + 1) = oversTo a b same n ++ if (suf (b.1.take (n + 1)) a.1 && !(same && n + 1 == a.1.length)) = true then [(a.2 ++ b.1.drop (n + 1), a.1.take (a.1.length - (n + 1)) ++ b.2)] else [] := by
  unfold oversTo
  rw [List.range_succ, List.filter_append, List.map_append]
  congr 1
  by_cases h : (suf (b.1.take (n + 1)) a.1 && !(same && n + 1 == a.1.length)) = true
  · rw [if_pos h, List.filter_cons_of_pos (by exact h)]; rfl
  · rw [if_neg h, List.filter_cons_of_neg (by exact h)]; rfl
theorem innersTo_succ (a b : Rule) (n : Nat) : innersTo a b (n + 1) = innersTo a b n ++ if pre b.1 (a.1.drop (n + 1)) = true then [(a.2, replaced a.1 (n + 1) b)] else [] := by
  unfold innersTo
  rw [List.range_succ, List.filter_append, List.map_append]
  congr 1
  by_cases h : pre b.1 (a.1.drop (n + 1)) = true
  · rw [if_pos h, List.filter_cons_of_pos (by exact h)]; rfl
  · rw [if_neg h, List.filter_cons_of_neg (by exact h)]; rfl
theorem rep1 (a : Rule) (t : Str) : replaced (a.1 ++ t) 0 a = a.2 ++ t := by simp [replaced]
theorem rep2 (a b : Rule) (k : Nat) (h1 : k ≤ a.1.length) (h2 : k ≤ b.1.length) : replaced (a.1 ++ b.1.drop k) (a.1.length - k) b = a.1.take (a.1.length - k) ++ b.2 := by
  unfold replaced
  rw [List.take_append_of_le_length (by omega), List.drop_eq_nil_of_le (by simp; omega), List.append_nil]
theorem oversTo_len (a b : Rule) (same : Bool) (n : Nat) : (oversTo a b same n).length ≤ n := by
  unfold oversTo
  rw [List.length_map]
  refine Nat.le_trans (List.length_filter_le _ _) ?_
  simp
theorem innersTo_len (a b : Rule) (n : Nat) : (innersTo a b n).length ≤ n := by
  unfold innersTo
  rw [List.length_map]
  refine Nat.le_trans (List.length_filter_le _ _) ?_
  simp
def GivesP (w : World) (l : List (Str × Str)) (e : Ending) (w' : World) : Prop := ∃ v, e = .returned v ∧ OwnP w' w.heap.size v l ∧ Gr w w'
set_option maxHeartbeats 4000000 in
set_option maxRecDepth 20000 in
theorem overlaps_any (a b : Rule) (same : Bool) (w : World) (ha : Small a) (hb : Small b) (ha1 : a.1.length ≤ 100000) (hb1 : b.1.length ≤ 100000) :
    Calls Try.prog 76 #[valR a, valR b, .bool same] w (GivesP w (overlaps a b same)) := by
  unfold valR
  go_enter Try.func76, Try.ntmps76
  go_wp2_with fail
  have hba := (Blk.new w 24 #[.string (B a.1), .string (B a.2)]).alloc (.cells #[.string (B b.1), .string (B b.2)] 24)
  have hbb := Blk.new (w.alloc (.cells #[.string (B a.1), .string (B a.2)] 24)) 24 #[.string (B b.1), .string (B b.2)]
  simp only [World.size_alloc] at hbb
  have hgr0 : Gr w ((w.alloc (.cells #[.string (B a.1), .string (B a.2)] 24)).alloc (.cells #[.string (B b.1), .string (B b.2)] 24)) := ((Kp.refl _ _).alloc _).alloc _
  have hsz0 : ((w.alloc (.cells #[.string (B a.1), .string (B a.2)] 24)).alloc (.cells #[.string (B b.1), .string (B b.2)] 24)).heap.size = w.heap.size + 2 := by simp
  generalize (w.alloc (.cells #[.string (B a.1), .string (B a.2)] 24)).alloc (.cells #[.string (B b.1), .string (B b.2)] 24) = w0 at *
  have HA := Lib.hid (show ∀ w', Gr w0 w' → w'.cell? ⟨w.heap.size, 0, none⟩ = some (.string (B a.1)) ∧ w'.cell? ⟨w.heap.size, 1, none⟩ = some (.string (B a.2)) ∧ w'.cell? ⟨w.heap.size + 1, 0, none⟩ = some (.string (B b.1)) ∧ w'.cell? ⟨w.heap.size + 1, 1, none⟩ = some (.string (B b.2)) from
    fun w' hG => ⟨(hba.gr hG).two.1, (hba.gr hG).two.2.1, (hbb.gr hG).two.1, (hbb.gr hG).two.2.1⟩)
  have Hgr0 := Lib.hid hgr0
  clear hba hbb hgr0
  go_loopw [7, 8] (fun v vk wr => ∃ (k : Nat) (u7V : Value), u7V = v ∧ 1 ≤ k ∧ k ≤ min a.1.length b.1.length + 1 ∧ vk = .int .i64 k ∧ Hid (OwnP wr w0.heap.size v (oversTo a b same (k - 1))) ∧ Hid (Gr w0 wr)) (fun _ vk _ => min a.1.length b.1.length + 1 - (intOf vk).toNat)
  case atStart => exact ⟨1, _, rfl, by omega, by omega, rfl, Own.nil _ _ _ _ _, Kp.refl _ _⟩
  case round =>
    obtain ⟨k, u7V, hu, hk1, hk2, rfl, hown, hg⟩ := hrel
    subst hu
    have hA := HA.out wr hg.out
    by_cases hlt : k ≤ min a.1.length b.1.length
    · have HF : Hid (∀ w', Gr wr w' → w'.cell? ⟨w.heap.size, 0, none⟩ = some (.string (B a.1)) ∧ w'.cell? ⟨w.heap.size, 1, none⟩ = some (.string (B a.2)) ∧ w'.cell? ⟨w.heap.size + 1, 0, none⟩ = some (.string (B b.1)) ∧ w'.cell? ⟨w.heap.size + 1, 1, none⟩ = some (.string (B b.2))) := fun w' hG => HA.out w' (hg.out.trans hG)
      have hkb : (k : Int) ≤ (b.1.length : Int) := by omega
      have hcat : ¬ 9223372036854775807 < a.1.length + (b.1.length - k) := by omega
      rcases hs : suf (b.1.take k) a.1 with _ | _
      · replace hs := Lib.hid hs
        go_wp2_with fail
        refine wp_region_S (fun _ => False) [(0, true), (1, true), (2, true), (3, true), (4, true), (5, true), (6, true), (7, true), (8, true), (9, true), (10, true), (11, true), (12, true), (13, true), (14, true), (15, true), (16, true), (17, true)] (by kernel_rfl) (by kernel_rfl) ?_
        iterate 6 (
          refine rp_val (v := ?_) rfl (fun _ _ _ h => h) rfl (fun w' hG => ?_) ?_
          rotate_left
          · have hF := HF.out w' hG
            clear hG
            go_simp
            try with_reducible rfl
          simp only [Act.put, List.setIfInBounds_toArray, List.set_cons_zero, List.set_cons_succ])
        refine rp_call (v := .bool false) (f := 64) (args := #[.string (B a.1), .string (B (b.1.take k))]) rfl (fun _ _ _ h => h) rfl (fun w' => ?_) (fun w' hG => ?_) ?_
        · go_simp
        · refine (hasSuffix_any a.1 (b.1.take k) w' (by omega) (by simp; omega)).mono ?_
          rintro e w'' ⟨rfl, rfl⟩
          exact ⟨by rw [hs.out], Kp.refl _ _⟩
        simp only [Act.put, List.setIfInBounds_toArray, List.set_cons_zero, List.set_cons_succ]
        iterate 2 (
          refine rp_val (v := ?_) rfl (fun _ _ _ h => h) rfl (fun w' hG => ?_) ?_
          rotate_left
          · clear hG
            go_simp
            try with_reducible rfl
          simp only [Act.put, List.setIfInBounds_toArray, List.set_cons_zero, List.set_cons_succ])
        iterate 8 (
          refine rp_skip rfl (fun _ _ _ h => h) rfl ?_
          simp only [Act.put, List.setIfInBounds_toArray, List.set_cons_zero, List.set_cons_succ])
        iterate 1 (
          refine rp_val (v := ?_) rfl (fun _ _ _ h => h) rfl (fun w' hG => ?_) ?_
          rotate_left
          · clear hG
            go_simp
            try with_reducible rfl
          simp only [Act.put, List.setIfInBounds_toArray, List.set_cons_zero, List.set_cons_succ])
        refine rp_done fun w4 hG4 => ?_
        clear hA
        have hA := HA.out w4 (hg.out.trans hG4)
        go_wp2_with fail
        refine ⟨⟨k + 1, _, rfl, by omega, by omega, by go_num, ?_, hg.out.trans hG4⟩, by simp [intOf]; omega⟩
        rw [show k + 1 - 1 = (k - 1) + 1 from by omega, oversTo_succ, if_neg (by rw [show k - 1 + 1 = k from by omega]; simp [hs.out]), List.append_nil]
        exact hown.out.gr hG4
      · replace hs := Lib.hid hs
        cases same
        · skip
          go_wp2_with fail
          refine wp_region_S (fun _ => False) [(0, true), (1, true), (2, true), (3, true), (4, true), (5, true), (6, true), (7, true), (8, true), (9, true), (10, true), (11, true), (12, true), (13, true), (14, true), (15, true), (16, true), (17, true)] (by kernel_rfl) (by kernel_rfl) ?_
          iterate 6 (
            refine rp_val (v := ?_) rfl (fun _ _ _ h => h) rfl (fun w' hG => ?_) ?_
            rotate_left
            · have hF := HF.out w' hG
              clear hG
              go_simp
              try with_reducible rfl
            simp only [Act.put, List.setIfInBounds_toArray, List.set_cons_zero, List.set_cons_succ])
          refine rp_call (v := .bool true) (f := 64) (args := #[.string (B a.1), .string (B (b.1.take k))]) rfl (fun _ _ _ h => h) rfl (fun w' => ?_) (fun w' hG => ?_) ?_
          · go_simp
          · refine (hasSuffix_any a.1 (b.1.take k) w' (by omega) (by simp; omega)).mono ?_
            rintro e w'' ⟨rfl, rfl⟩
            exact ⟨by rw [hs.out], Kp.refl _ _⟩
          simp only [Act.put, List.setIfInBounds_toArray, List.set_cons_zero, List.set_cons_succ]
          iterate 2 (
            refine rp_val (v := ?_) rfl (fun _ _ _ h => h) rfl (fun w' hG => ?_) ?_
            rotate_left
            · clear hG
              go_simp
              try with_reducible rfl
            simp only [Act.put, List.setIfInBounds_toArray, List.set_cons_zero, List.set_cons_succ])
          iterate 2 (
            refine rp_val (v := ?_) rfl (fun _ _ _ h => h) rfl (fun w' hG => ?_) ?_
            rotate_left
            · clear hG
              go_simp
              try with_reducible rfl
            simp only [Act.put, List.setIfInBounds_toArray, List.set_cons_zero, List.set_cons_succ])
          iterate 5 (
            refine rp_skip rfl (fun _ _ _ h => h) rfl ?_
            simp only [Act.put, List.setIfInBounds_toArray, List.set_cons_zero, List.set_cons_succ])
          iterate 2 (
            refine rp_val (v := ?_) rfl (fun _ _ _ h => h) rfl (fun w' hG => ?_) ?_
            rotate_left
            · clear hG
              go_simp
              try with_reducible rfl
            simp only [Act.put, List.setIfInBounds_toArray, List.set_cons_zero, List.set_cons_succ])
          refine rp_done fun w4 hG4 => ?_
          clear hA
          have hA := HA.out w4 (hg.out.trans hG4)
          go_wp2_with fail
          have HG4 := Lib.hid (hg.out.trans hG4)
          have HF4 : Hid (∀ w', Gr w4 w' → w'.cell? ⟨w.heap.size, 0, none⟩ = some (.string (B a.1)) ∧ w'.cell? ⟨w.heap.size, 1, none⟩ = some (.string (B a.2)) ∧ w'.cell? ⟨w.heap.size + 1, 0, none⟩ = some (.string (B b.1)) ∧ w'.cell? ⟨w.heap.size + 1, 1, none⟩ = some (.string (B b.2))) := fun w' hG => HA.out w' (HG4.out.trans hG)
          clear HF
          have HF := HF4
          refine wp_region_S (fun _ => False) [(0, true), (1, true), (2, true), (3, true), (4, true), (5, true), (6, true), (7, true)] (by kernel_rfl) (by kernel_rfl) ?_
          iterate 8 (
            refine rp_val (v := ?_) rfl (fun _ _ _ h => h) rfl (fun w' hG => ?_) ?_
            rotate_left
            · have hF := HF.out w' hG
              clear hG
              go_simp
              try with_reducible rfl
            simp only [Act.put, List.setIfInBounds_toArray, List.set_cons_zero, List.set_cons_succ])
          refine rp_done fun w5 hG5 => ?_
          have HG5 := Lib.hid (HG4.out.trans hG5)
          have hown5 := Lib.hid (hown.out.gr (hG4.trans hG5))
          have hnA : ¬ u7V.ownBlock = some w.heap.size := fun h => by have := (Own.lt hown.out h).1; omega
          have hnB : ¬ u7V.ownBlock = some (w.heap.size + 1) := fun h => by have := (Own.lt hown.out h).1; omega
          clear HF hA
          have hA5 := HA.out w5 HG5.out
          have HF : Hid (∀ w', Kp (fun k => u7V.ownBlock = some k) w5 w' → w'.cell? ⟨w.heap.size, 0, none⟩ = some (.string (B a.1)) ∧ w'.cell? ⟨w.heap.size, 1, none⟩ = some (.string (B a.2)) ∧ w'.cell? ⟨w.heap.size + 1, 0, none⟩ = some (.string (B b.1)) ∧ w'.cell? ⟨w.heap.size + 1, 1, none⟩ = some (.string (B b.2))) := fun w' hG => ⟨hG.cell hA5.1 hnA, hG.cell hA5.2.1 hnA, hG.cell hA5.2.2.1 hnB, hG.cell hA5.2.2.2 hnB⟩
          have hsub : IntKind.i64.wrap ((a.1.length : Int) - k) = ((a.1.length - k : Nat) : Int) := (IntWalk.i64_in _ (by omega)).trans (by omega)
          go_wp2_with fail
          refine wp_region_S (fun k => u7V.ownBlock = some k) [(0, true), (1, true), (2, true), (3, true), (4, true), (5, true), (6, true), (7, true), (8, true), (9, true), (10, true), (11, true), (12, true), (13, false), (14, false), (15, true)] (by kernel_rfl) (by kernel_rfl) ?_
          iterate 3 (
            refine rp_val (v := ?_) rfl (fun _ _ _ h => h) rfl (fun w' hG => ?_) ?_
            rotate_left
            · have hF := HF.out w' hG
              clear hG
              go_simp
              try with_reducible rfl
            simp only [Act.put, List.setIfInBounds_toArray, List.set_cons_zero, List.set_cons_succ])
          refine rp_call (v := .string (B (replaced (a.1 ++ b.1.drop k) 0 a))) (f := 50) (args := #[.string (B (a.1 ++ b.1.drop k)), .int .i64 0, .agg #[.string (B a.1), .string (B a.2)]]) rfl (fun _ _ _ h => h) rfl (fun w' => ?_) (fun w' hG => ?_) ?_
          · go_simp
          · exact replaced_any (a.1 ++ b.1.drop k) a.1 a.2 0 w' (by simp) (by simp; omega) (by have := ha.2; omega)
          simp only [Act.put, List.setIfInBounds_toArray, List.set_cons_zero, List.set_cons_succ]
          iterate 7 (
            refine rp_val (v := ?_) rfl (fun _ _ _ h => h) rfl (fun w' hG => ?_) ?_
            rotate_left
            · have hF := HF.out w' hG
              clear hG
              go_simp
              try with_reducible rfl
            simp only [Act.put, List.setIfInBounds_toArray, List.set_cons_zero, List.set_cons_succ])
          refine rp_call (v := .string (B (replaced (a.1 ++ b.1.drop k) (a.1.length - k) b))) (f := 50) (args := #[.string (B (a.1 ++ b.1.drop k)), .int .i64 ((a.1.length - k : Nat) : Int), .agg #[.string (B b.1), .string (B b.2)]]) rfl (fun _ _ _ h => h) rfl (fun w' => ?_) (fun w' hG => ?_) ?_
          · go_simp
          · exact replaced_any (a.1 ++ b.1.drop k) b.1 b.2 (a.1.length - k) w' (by simp; omega) (by simp; omega) (by have := hb.2; omega)
          simp only [Act.put, List.setIfInBounds_toArray, List.set_cons_zero, List.set_cons_succ]
          iterate 1 (
            refine rp_val (v := ?_) rfl (fun _ _ _ h => h) rfl (fun w' hG => ?_) ?_
            rotate_left
            · clear hG
              go_simp
              try with_reducible rfl
            simp only [Act.put, List.setIfInBounds_toArray, List.set_cons_zero, List.set_cons_succ])
          refine rp_loud rfl (by rfl) (fun w6 hG6 K hK => ?_)
          replace hK := Lib.hid hK
          go_simp
          refine hK.out _ _ ((Kp.refl _ _).alloc _) ?_
          clear hK
          refine rp_loud rfl (by rfl) (fun w7 hG7 K hK => ?_)
          replace hK := Lib.hid hK
          have hb7 := Blk.gr (Blk.new w6 70 #[.string (B (replaced (a.1 ++ b.1.drop k) 0 a)), .string (B (replaced (a.1 ++ b.1.drop k) (a.1.length - k) b))]) hG7
          have hg67 := Lib.hid ((hG6.alloc (.cells #[.string (B (replaced (a.1 ++ b.1.drop k) 0 a)), .string (B (replaced (a.1 ++ b.1.drop k) (a.1.length - k) b))] 70)).trans hG7)
          refine wp_append (l := oversTo a b false (k - 1)) (m := [(replaced (a.1 ++ b.1.drop k) 0 a, replaced (a.1 ++ b.1.drop k) (a.1.length - k) b)]) (v := u7V) (base := w0.heap.size) encR_ok elemP _ _ rfl rfl (hown5.out.gr hg67.out) 1 rfl (At.of_blk encR_ok hb7) (by have := oversTo_len a b false (k - 1); simp only [List.length_cons, List.length_nil]; omega) (by have := (HG5.out.trans hg67.out).size; omega) (fun v8 w8 hown8 hk8 hb8 => ?_)
          refine hK.out _ _ hk8 ?_
          clear hK
          iterate 1 (
            refine rp_val (v := ?_) rfl (fun _ _ _ h => h) rfl (fun w' hG => ?_) ?_
            rotate_left
            · clear hG
              go_simp
              try with_reducible rfl
            simp only [Act.put, List.setIfInBounds_toArray, List.set_cons_zero, List.set_cons_succ])
          refine rp_done fun w9 hG9 => ?_
          go_wp2_with fail
          refine ⟨⟨k + 1, _, rfl, by omega, by omega, by go_num, ?_, ?_⟩, by simp [intOf]; omega⟩
          · rw [show k + 1 - 1 = (k - 1) + 1 from by omega, oversTo_succ, if_pos (by rw [show k - 1 + 1 = k from by omega]; simp [hs.out]), show k - 1 + 1 = k from by omega]
            rw [rep1, rep2 a b k (by omega) (by omega)] at hown8
            exact hown8.gr hG9
          · exact Gr.kp ((HG5.out.trans hg67.out)) (hk8.trans (hG9.mono fun _ _ h => h.elim)) (fun i h1 h2 => by have := (Own.lt hown5.out h2).1; omega)
        · by_cases hk : k = a.1.length
          · have hkd : ((k : Int) == (a.1.length : Int)) = true := by simp [hk]
            have Hk := Lib.hid hk
            clear hk
            go_wp2_with fail
            refine wp_region_S (fun _ => False) [(0, true), (1, true), (2, true), (3, true), (4, true), (5, true), (6, true), (7, true), (8, true), (9, true), (10, true), (11, true), (12, true), (13, true), (14, true), (15, true), (16, true), (17, true)] (by kernel_rfl) (by kernel_rfl) ?_
            iterate 6 (
              refine rp_val (v := ?_) rfl (fun _ _ _ h => h) rfl (fun w' hG => ?_) ?_
              rotate_left
              · have hF := HF.out w' hG
                clear hG
                go_simp
                try with_reducible rfl
              simp only [Act.put, List.setIfInBounds_toArray, List.set_cons_zero, List.set_cons_succ])
            refine rp_call (v := .bool true) (f := 64) (args := #[.string (B a.1), .string (B (b.1.take k))]) rfl (fun _ _ _ h => h) rfl (fun w' => ?_) (fun w' hG => ?_) ?_
            · go_simp
            · refine (hasSuffix_any a.1 (b.1.take k) w' (by omega) (by simp; omega)).mono ?_
              rintro e w'' ⟨rfl, rfl⟩
              exact ⟨by rw [hs.out], Kp.refl _ _⟩
            simp only [Act.put, List.setIfInBounds_toArray, List.set_cons_zero, List.set_cons_succ]
            iterate 2 (
              refine rp_val (v := ?_) rfl (fun _ _ _ h => h) rfl (fun w' hG => ?_) ?_
              rotate_left
              · clear hG
                go_simp
                try with_reducible rfl
              simp only [Act.put, List.setIfInBounds_toArray, List.set_cons_zero, List.set_cons_succ])
            iterate 2 (
              refine rp_val (v := ?_) rfl (fun _ _ _ h => h) rfl (fun w' hG => ?_) ?_
              rotate_left
              · clear hG
                go_simp
                try with_reducible rfl
              simp only [Act.put, List.setIfInBounds_toArray, List.set_cons_zero, List.set_cons_succ])
            iterate 5 (
              refine rp_val (v := ?_) rfl (fun _ _ _ h => h) rfl (fun w' hG => ?_) ?_
              rotate_left
              · have hF := HF.out w' hG
                clear hG
                go_simp
                try with_reducible rfl
              simp only [Act.put, List.setIfInBounds_toArray, List.set_cons_zero, List.set_cons_succ])
            iterate 2 (
              refine rp_val (v := ?_) rfl (fun _ _ _ h => h) rfl (fun w' hG => ?_) ?_
              rotate_left
              · clear hG
                go_simp
                try with_reducible rfl
              simp only [Act.put, List.setIfInBounds_toArray, List.set_cons_zero, List.set_cons_succ])
            refine rp_done fun w4 hG4 => ?_
            clear hA
            have hA := HA.out w4 (hg.out.trans hG4)
            go_wp2_with fail
            refine ⟨⟨k + 1, _, rfl, by omega, by omega, by go_num, ?_, hg.out.trans hG4⟩, by simp [intOf]; omega⟩
            rw [show k + 1 - 1 = (k - 1) + 1 from by omega, oversTo_succ, if_neg (by rw [show k - 1 + 1 = k from by omega]; simp [hs.out, Hk.out]), List.append_nil]
            exact hown.out.gr hG4
          · have hkd : ((k : Int) == (a.1.length : Int)) = false := by simp; omega
            have Hk := Lib.hid hk
            clear hk
            go_wp2_with fail
            refine wp_region_S (fun _ => False) [(0, true), (1, true), (2, true), (3, true), (4, true), (5, true), (6, true), (7, true), (8, true), (9, true), (10, true), (11, true), (12, true), (13, true), (14, true), (15, true), (16, true), (17, true)] (by kernel_rfl) (by kernel_rfl) ?_
            iterate 6 (
              refine rp_val (v := ?_) rfl (fun _ _ _ h => h) rfl (fun w' hG => ?_) ?_
              rotate_left
              · have hF := HF.out w' hG
                clear hG
                go_simp
                try with_reducible rfl
              simp only [Act.put, List.setIfInBounds_toArray, List.set_cons_zero, List.set_cons_succ])
            refine rp_call (v := .bool true) (f := 64) (args := #[.string (B a.1), .string (B (b.1.take k))]) rfl (fun _ _ _ h => h) rfl (fun w' => ?_) (fun w' hG => ?_) ?_
            · go_simp
            · refine (hasSuffix_any a.1 (b.1.take k) w' (by omega) (by simp; omega)).mono ?_
              rintro e w'' ⟨rfl, rfl⟩
              exact ⟨by rw [hs.out], Kp.refl _ _⟩
            simp only [Act.put, List.setIfInBounds_toArray, List.set_cons_zero, List.set_cons_succ]
            iterate 2 (
              refine rp_val (v := ?_) rfl (fun _ _ _ h => h) rfl (fun w' hG => ?_) ?_
              rotate_left
              · clear hG
                go_simp
                try with_reducible rfl
              simp only [Act.put, List.setIfInBounds_toArray, List.set_cons_zero, List.set_cons_succ])
            iterate 2 (
              refine rp_val (v := ?_) rfl (fun _ _ _ h => h) rfl (fun w' hG => ?_) ?_
              rotate_left
              · clear hG
                go_simp
                try with_reducible rfl
              simp only [Act.put, List.setIfInBounds_toArray, List.set_cons_zero, List.set_cons_succ])
            iterate 5 (
              refine rp_val (v := ?_) rfl (fun _ _ _ h => h) rfl (fun w' hG => ?_) ?_
              rotate_left
              · have hF := HF.out w' hG
                clear hG
                go_simp
                try with_reducible rfl
              simp only [Act.put, List.setIfInBounds_toArray, List.set_cons_zero, List.set_cons_succ])
            iterate 2 (
              refine rp_val (v := ?_) rfl (fun _ _ _ h => h) rfl (fun w' hG => ?_) ?_
              rotate_left
              · clear hG
                go_simp
                try with_reducible rfl
              simp only [Act.put, List.setIfInBounds_toArray, List.set_cons_zero, List.set_cons_succ])
            refine rp_done fun w4 hG4 => ?_
            clear hA
            have hA := HA.out w4 (hg.out.trans hG4)
            go_wp2_with fail
            have HG4 := Lib.hid (hg.out.trans hG4)
            have HF4 : Hid (∀ w', Gr w4 w' → w'.cell? ⟨w.heap.size, 0, none⟩ = some (.string (B a.1)) ∧ w'.cell? ⟨w.heap.size, 1, none⟩ = some (.string (B a.2)) ∧ w'.cell? ⟨w.heap.size + 1, 0, none⟩ = some (.string (B b.1)) ∧ w'.cell? ⟨w.heap.size + 1, 1, none⟩ = some (.string (B b.2))) := fun w' hG => HA.out w' (HG4.out.trans hG)
            clear HF
            have HF := HF4
            refine wp_region_S (fun _ => False) [(0, true), (1, true), (2, true), (3, true), (4, true), (5, true), (6, true), (7, true)] (by kernel_rfl) (by kernel_rfl) ?_
            iterate 8 (
              refine rp_val (v := ?_) rfl (fun _ _ _ h => h) rfl (fun w' hG => ?_) ?_
              rotate_left
              · have hF := HF.out w' hG
                clear hG
                go_simp
                try with_reducible rfl
              simp only [Act.put, List.setIfInBounds_toArray, List.set_cons_zero, List.set_cons_succ])
            refine rp_done fun w5 hG5 => ?_
            have HG5 := Lib.hid (HG4.out.trans hG5)
            have hown5 := Lib.hid (hown.out.gr (hG4.trans hG5))
            have hnA : ¬ u7V.ownBlock = some w.heap.size := fun h => by have := (Own.lt hown.out h).1; omega
            have hnB : ¬ u7V.ownBlock = some (w.heap.size + 1) := fun h => by have := (Own.lt hown.out h).1; omega
            clear HF hA
            have hA5 := HA.out w5 HG5.out
            have HF : Hid (∀ w', Kp (fun k => u7V.ownBlock = some k) w5 w' → w'.cell? ⟨w.heap.size, 0, none⟩ = some (.string (B a.1)) ∧ w'.cell? ⟨w.heap.size, 1, none⟩ = some (.string (B a.2)) ∧ w'.cell? ⟨w.heap.size + 1, 0, none⟩ = some (.string (B b.1)) ∧ w'.cell? ⟨w.heap.size + 1, 1, none⟩ = some (.string (B b.2))) := fun w' hG => ⟨hG.cell hA5.1 hnA, hG.cell hA5.2.1 hnA, hG.cell hA5.2.2.1 hnB, hG.cell hA5.2.2.2 hnB⟩
            have hsub : IntKind.i64.wrap ((a.1.length : Int) - k) = ((a.1.length - k : Nat) : Int) := (IntWalk.i64_in _ (by omega)).trans (by omega)
            go_wp2_with fail
            refine wp_region_S (fun k => u7V.ownBlock = some k) [(0, true), (1, true), (2, true), (3, true), (4, true), (5, true), (6, true), (7, true), (8, true), (9, true), (10, true), (11, true), (12, true), (13, false), (14, false), (15, true)] (by kernel_rfl) (by kernel_rfl) ?_
            iterate 3 (
              refine rp_val (v := ?_) rfl (fun _ _ _ h => h) rfl (fun w' hG => ?_) ?_
              rotate_left
              · have hF := HF.out w' hG
                clear hG
                go_simp
                try with_reducible rfl
              simp only [Act.put, List.setIfInBounds_toArray, List.set_cons_zero, List.set_cons_succ])
            refine rp_call (v := .string (B (replaced (a.1 ++ b.1.drop k) 0 a))) (f := 50) (args := #[.string (B (a.1 ++ b.1.drop k)), .int .i64 0, .agg #[.string (B a.1), .string (B a.2)]]) rfl (fun _ _ _ h => h) rfl (fun w' => ?_) (fun w' hG => ?_) ?_
            · go_simp
            · exact replaced_any (a.1 ++ b.1.drop k) a.1 a.2 0 w' (by simp) (by simp; omega) (by have := ha.2; omega)
            simp only [Act.put, List.setIfInBounds_toArray, List.set_cons_zero, List.set_cons_succ]
            iterate 7 (
              refine rp_val (v := ?_) rfl (fun _ _ _ h => h) rfl (fun w' hG => ?_) ?_
              rotate_left
              · have hF := HF.out w' hG
                clear hG
                go_simp
                try with_reducible rfl
              simp only [Act.put, List.setIfInBounds_toArray, List.set_cons_zero, List.set_cons_succ])
            refine rp_call (v := .string (B (replaced (a.1 ++ b.1.drop k) (a.1.length - k) b))) (f := 50) (args := #[.string (B (a.1 ++ b.1.drop k)), .int .i64 ((a.1.length - k : Nat) : Int), .agg #[.string (B b.1), .string (B b.2)]]) rfl (fun _ _ _ h => h) rfl (fun w' => ?_) (fun w' hG => ?_) ?_
            · go_simp
            · exact replaced_any (a.1 ++ b.1.drop k) b.1 b.2 (a.1.length - k) w' (by simp; omega) (by simp; omega) (by have := hb.2; omega)
            simp only [Act.put, List.setIfInBounds_toArray, List.set_cons_zero, List.set_cons_succ]
            iterate 1 (
              refine rp_val (v := ?_) rfl (fun _ _ _ h => h) rfl (fun w' hG => ?_) ?_
              rotate_left
              · clear hG
                go_simp
                try with_reducible rfl
              simp only [Act.put, List.setIfInBounds_toArray, List.set_cons_zero, List.set_cons_succ])
            refine rp_loud rfl (by rfl) (fun w6 hG6 K hK => ?_)
            replace hK := Lib.hid hK
            go_simp
            refine hK.out _ _ ((Kp.refl _ _).alloc _) ?_
            clear hK
            refine rp_loud rfl (by rfl) (fun w7 hG7 K hK => ?_)
            replace hK := Lib.hid hK
            have hb7 := Blk.gr (Blk.new w6 70 #[.string (B (replaced (a.1 ++ b.1.drop k) 0 a)), .string (B (replaced (a.1 ++ b.1.drop k) (a.1.length - k) b))]) hG7
            have hg67 := Lib.hid ((hG6.alloc (.cells #[.string (B (replaced (a.1 ++ b.1.drop k) 0 a)), .string (B (replaced (a.1 ++ b.1.drop k) (a.1.length - k) b))] 70)).trans hG7)
            refine wp_append (l := oversTo a b true (k - 1)) (m := [(replaced (a.1 ++ b.1.drop k) 0 a, replaced (a.1 ++ b.1.drop k) (a.1.length - k) b)]) (v := u7V) (base := w0.heap.size) encR_ok elemP _ _ rfl rfl (hown5.out.gr hg67.out) 1 rfl (At.of_blk encR_ok hb7) (by have := oversTo_len a b true (k - 1); simp only [List.length_cons, List.length_nil]; omega) (by have := (HG5.out.trans hg67.out).size; omega) (fun v8 w8 hown8 hk8 hb8 => ?_)
            refine hK.out _ _ hk8 ?_
            clear hK
            iterate 1 (
              refine rp_val (v := ?_) rfl (fun _ _ _ h => h) rfl (fun w' hG => ?_) ?_
              rotate_left
              · clear hG
                go_simp
                try with_reducible rfl
              simp only [Act.put, List.setIfInBounds_toArray, List.set_cons_zero, List.set_cons_succ])
            refine rp_done fun w9 hG9 => ?_
            go_wp2_with fail
            refine ⟨⟨k + 1, _, rfl, by omega, by omega, by go_num, ?_, ?_⟩, by simp [intOf]; omega⟩
            · rw [show k + 1 - 1 = (k - 1) + 1 from by omega, oversTo_succ, if_pos (by rw [show k - 1 + 1 = k from by omega]; simp [hs.out, Hk.out]), show k - 1 + 1 = k from by omega]
              rw [rep1, rep2 a b k (by omega) (by omega)] at hown8
              exact hown8.gr hG9
            · exact Gr.kp ((HG5.out.trans hg67.out)) (hk8.trans (hG9.mono fun _ _ h => h.elim)) (fun i h1 h2 => by have := (Own.lt hown5.out h2).1; omega)
    · have hke : k = min a.1.length b.1.length + 1 := by omega
      rw [show k - 1 = min a.1.length b.1.length from by omega] at hown
      clear hke
      have hov : oversTo a b same (min a.1.length b.1.length) = overs a b same := rfl
      rw [hov] at hown
      cases same
      · go_wp2_with fail
        go_loopw [7, 10] (fun v vk wr => ∃ (j : Nat) (u7V : Value), u7V = v ∧ 1 ≤ j ∧ j ≤ max 1 (a.1.length - b.1.length) ∧ vk = .int .i64 j ∧ Hid (OwnP wr w0.heap.size v (overs a b false ++ innersTo a b (j - 1))) ∧ Hid (Gr w0 wr)) (fun _ vk _ => a.1.length + 1 - (intOf vk).toNat)
        case atStart => exact ⟨1, _, rfl, by omega, by omega, rfl, by simpa [innersTo] using hown, hg⟩
        case round =>
          clear hA hown hg hov
          obtain ⟨j, u7V, hu, hj1, hj2, rfl, hown, hg⟩ := hrel
          subst hu
          have hA := HA.out _ hg.out
          by_cases hlt : j + b.1.length < a.1.length
          · have HF : Hid (∀ w', Gr wr w' → w'.cell? ⟨w.heap.size, 0, none⟩ = some (.string (B a.1)) ∧ w'.cell? ⟨w.heap.size, 1, none⟩ = some (.string (B a.2)) ∧ w'.cell? ⟨w.heap.size + 1, 0, none⟩ = some (.string (B b.1)) ∧ w'.cell? ⟨w.heap.size + 1, 1, none⟩ = some (.string (B b.2))) := fun w' hG => HA.out w' (hg.out.trans hG)
            have hja : (j : Int) ≤ (a.1.length : Int) := by omega
            go_wp2_with fail
            rcases hs : pre b.1 (a.1.drop j) with _ | _
            · replace hs := Lib.hid hs
              refine wp_region_S (fun _ => False) [(0, true), (1, true), (2, true), (3, true), (4, true), (5, true), (6, true)] (by kernel_rfl) (by kernel_rfl) ?_
              iterate 6 (
                refine rp_val (v := ?_) rfl (fun _ _ _ h => h) rfl (fun w' hG => ?_) ?_
                rotate_left
                · have hF := HF.out w' hG
                  clear hG
                  go_simp
                  try with_reducible rfl
                simp only [Act.put, List.setIfInBounds_toArray, List.set_cons_zero, List.set_cons_succ])
              refine rp_call (v := .bool false) (f := 68) (args := #[.string (B (a.1.drop j)), .string (B b.1)]) rfl (fun _ _ _ h => h) rfl (fun w' => ?_) (fun w' hG => ?_) ?_
              · go_simp
              · refine (hasPrefix_any (a.1.drop j) b.1 w').mono ?_
                rintro e w'' ⟨rfl, rfl⟩
                exact ⟨by rw [hs.out], Kp.refl _ _⟩
              simp only [Act.put, List.setIfInBounds_toArray, List.set_cons_zero, List.set_cons_succ]
              refine rp_done fun w5 hG5 => ?_
              go_wp2_with fail
              refine ⟨⟨j + 1, _, rfl, by omega, by omega, by go_num, ?_, hg.out.trans hG5⟩, by simp [intOf]; omega⟩
              rw [show j + 1 - 1 = (j - 1) + 1 from by omega, innersTo_succ, if_neg (by rw [show j - 1 + 1 = j from by omega]; simp [hs.out]), List.append_nil]
              exact hown.out.gr hG5
            · replace hs := Lib.hid hs
              refine wp_region_S (fun _ => False) [(0, true), (1, true), (2, true), (3, true), (4, true), (5, true), (6, true)] (by kernel_rfl) (by kernel_rfl) ?_
              iterate 6 (
                refine rp_val (v := ?_) rfl (fun _ _ _ h => h) rfl (fun w' hG => ?_) ?_
                rotate_left
                · have hF := HF.out w' hG
                  clear hG
                  go_simp
                  try with_reducible rfl
                simp only [Act.put, List.setIfInBounds_toArray, List.set_cons_zero, List.set_cons_succ])
              refine rp_call (v := .bool true) (f := 68) (args := #[.string (B (a.1.drop j)), .string (B b.1)]) rfl (fun _ _ _ h => h) rfl (fun w' => ?_) (fun w' hG => ?_) ?_
              · go_simp
              · refine (hasPrefix_any (a.1.drop j) b.1 w').mono ?_
                rintro e w'' ⟨rfl, rfl⟩
                exact ⟨by rw [hs.out], Kp.refl _ _⟩
              simp only [Act.put, List.setIfInBounds_toArray, List.set_cons_zero, List.set_cons_succ]
              refine rp_done fun w5 hG5 => ?_
              go_wp2_with fail
              have HG5 := Lib.hid (hg.out.trans hG5)
              have hown5 := Lib.hid (hown.out.gr hG5)
              have hnA : ¬ u7V.ownBlock = some w.heap.size := fun h => by have := (Own.lt hown.out h).1; omega
              have hnB : ¬ u7V.ownBlock = some (w.heap.size + 1) := fun h => by have := (Own.lt hown.out h).1; omega
              clear HF hA
              have hA5 := HA.out w5 HG5.out
              have HF : Hid (∀ w', Kp (fun k => u7V.ownBlock = some k) w5 w' → w'.cell? ⟨w.heap.size, 0, none⟩ = some (.string (B a.1)) ∧ w'.cell? ⟨w.heap.size, 1, none⟩ = some (.string (B a.2)) ∧ w'.cell? ⟨w.heap.size + 1, 0, none⟩ = some (.string (B b.1)) ∧ w'.cell? ⟨w.heap.size + 1, 1, none⟩ = some (.string (B b.2))) := fun w' hG => ⟨hG.cell hA5.1 hnA, hG.cell hA5.2.1 hnA, hG.cell hA5.2.2.1 hnB, hG.cell hA5.2.2.2 hnB⟩
              refine wp_region_S (fun k => u7V.ownBlock = some k) [(0, true), (1, true), (2, true), (3, true), (4, true), (5, true), (6, true), (7, true), (8, true), (9, false), (10, false), (11, true)] (by kernel_rfl) (by kernel_rfl) ?_
              iterate 7 (
                refine rp_val (v := ?_) rfl (fun _ _ _ h => h) rfl (fun w' hG => ?_) ?_
                rotate_left
                · have hF := HF.out w' hG
                  clear hG
                  go_simp
                  try with_reducible rfl
                simp only [Act.put, List.setIfInBounds_toArray, List.set_cons_zero, List.set_cons_succ])
              refine rp_call (v := .string (B (replaced a.1 j b))) (f := 50) (args := #[.string (B a.1), .int .i64 j, .agg #[.string (B b.1), .string (B b.2)]]) rfl (fun _ _ _ h => h) rfl (fun w' => ?_) (fun w' hG => ?_) ?_
              · go_simp
              · exact replaced_any a.1 b.1 b.2 j w' (by omega) (by omega) (by have := hb.2; omega)
              simp only [Act.put, List.setIfInBounds_toArray, List.set_cons_zero, List.set_cons_succ]
              iterate 1 (
                refine rp_val (v := ?_) rfl (fun _ _ _ h => h) rfl (fun w' hG => ?_) ?_
                rotate_left
                · clear hG
                  go_simp
                  try with_reducible rfl
                simp only [Act.put, List.setIfInBounds_toArray, List.set_cons_zero, List.set_cons_succ])
              refine rp_loud rfl (by rfl) (fun w6 hG6 K hK => ?_)
              replace hK := Lib.hid hK
              go_simp
              refine hK.out _ _ ((Kp.refl _ _).alloc _) ?_
              clear hK
              refine rp_loud rfl (by rfl) (fun w7 hG7 K hK => ?_)
              replace hK := Lib.hid hK
              have hb7 := Blk.gr (Blk.new w6 70 #[.string (B a.2), .string (B (replaced a.1 j b))]) hG7
              have hg67 := Lib.hid ((hG6.alloc (.cells #[.string (B a.2), .string (B (replaced a.1 j b))] 70)).trans hG7)
              refine wp_append (l := overs a b false ++ innersTo a b (j - 1)) (m := [(a.2, replaced a.1 j b)]) (v := u7V) (base := w0.heap.size) encR_ok elemP _ _ rfl rfl (hown5.out.gr hg67.out) 1 rfl (At.of_blk encR_ok hb7) (by have h1 := oversTo_len a b false (min a.1.length b.1.length); have h2 := innersTo_len a b (j - 1); rw [List.length_append]; have h3 : (overs a b false).length ≤ min a.1.length b.1.length := h1; simp only [List.length_cons, List.length_nil]; omega) (by have := (HG5.out.trans hg67.out).size; omega) (fun v8 w8 hown8 hk8 hb8 => ?_)
              refine hK.out _ _ hk8 ?_
              clear hK
              iterate 1 (
                refine rp_val (v := ?_) rfl (fun _ _ _ h => h) rfl (fun w' hG => ?_) ?_
                rotate_left
                · clear hG
                  go_simp
                  try with_reducible rfl
                simp only [Act.put, List.setIfInBounds_toArray, List.set_cons_zero, List.set_cons_succ])
              refine rp_done fun w9 hG9 => ?_
              go_wp2_with fail
              refine ⟨⟨j + 1, _, rfl, by omega, by omega, by go_num, ?_, ?_⟩, by simp [intOf]; omega⟩
              · rw [show j + 1 - 1 = (j - 1) + 1 from by omega, innersTo_succ, if_pos (by rw [show j - 1 + 1 = j from by omega]; exact hs.out), show j - 1 + 1 = j from by omega, ← List.append_assoc]
                exact hown8.gr hG9
              · exact Gr.kp ((HG5.out.trans hg67.out)) (hk8.trans (hG9.mono fun _ _ h => h.elim)) (fun i h1 h2 => by have := (Own.lt hown5.out h2).1; omega)
          · go_wp2_with fail
            go_ret
            refine ⟨_, rfl, ?_, Hgr0.out.trans hg.out⟩
            have hin : inners a b false = innersTo a b (a.1.length - b.1.length - 1) := rfl
            unfold overlaps
            rw [hin, show a.1.length - b.1.length - 1 = j - 1 from by omega]
            exact hown.out.base (by omega)
      · go_wp2_with fail
        go_loopw [7, 10] (fun v vk wr => ∃ u7V, u7V = v ∧ Hid (OwnP wr w0.heap.size v (overs a b true)) ∧ Hid (Gr w0 wr)) (fun _ _ _ => 0)
        case atStart => exact ⟨_, rfl, hown, hg⟩
        case round =>
          clear hA hown hg hov
          obtain ⟨u7V, hu, hown, hg⟩ := hrel
          subst hu
          go_wp2_with fail
          go_ret
          refine ⟨_, rfl, ?_, Hgr0.out.trans hg.out⟩
          have hin : inners a b true = [] := rfl
          unfold overlaps
          rw [hin, List.append_nil]
          exact hown.out.base (by omega)
end Go.Proofs.Ytffghamcggadcaa
