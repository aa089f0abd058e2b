/- Contract: BinarySearchFunc by byLeft. -/
import Derived.Test.YtffghamcggadcaaCp
namespace Go.Proofs.Ytffghamcggadcaa
open Go.RowKit
set_option linter.unusedVariables false
set_option linter.unusedSimpArgs false
attribute [local go_sem] B_size B_toList B_append B_extract B_get take_rest
/-- what the search has found of a row: the rules before i are less, those from i on are not -/
def Parted (l : List Rule) (r : Rule) (i j : Nat) : Prop := (∀ k (h : k < l.length), k < i → byLeft l[k] r < 0) ∧ ∀ k (h : k < l.length), j ≤ k → ¬ byLeft l[k] r < 0
theorem Parted.lo {l : List Rule} {r : Rule} {i j m : Nat} (hp : Parted l r i j) (hs : Sorted l) (hm : m < l.length) (hb : byLeft l[m] r < 0) : Parted l r (m + 1) j := by
  refine ⟨fun k h hk => ?_, hp.2⟩
  by_cases hkm : k = m
  · subst hkm; exact hb
  · exact bl_trans (List.pairwise_iff_getElem.1 hs k m h hm (by omega)) hb
theorem Parted.hi {l : List Rule} {r : Rule} {i j m : Nat} (hp : Parted l r i j) (hs : Sorted l) (hm : m < l.length) (hb : ¬ byLeft l[m] r < 0) : Parted l r i m := by
  refine ⟨hp.1, fun k h hk => ?_⟩
  by_cases hkm : k = m
  · subst hkm; exact hb
  · exact fun h' => hb (bl_trans (List.pairwise_iff_getElem.1 hs m k hm h (by omega)) h')
set_option maxHeartbeats 1000000 in
set_option maxRecDepth 20000 in
theorem search_any (l : List Rule) (A : Option Addr) (c : Nat) (r : Rule) (w : World) (hn : l.length ≤ 1000000000) (hs : Sorted l) (h : RAt w A l) :
    Calls Try.prog 72 #[.slice A l.length c, .agg #[.string (B r.1), .string (B r.2)], .func (.func 53) #[] #[]] w
      fun e w' => ∃ i : Nat, i ≤ l.length ∧ Parted l r i i ∧ e = .returned (.tuple #[.int .i64 i, .bool (l[i]? == some r)]) ∧ Gr w w' := by
  have Hs := Lib.hid hs
  have Hl := Lib.hid h
  clear hs h
  go_enter Try.func72, Try.ntmps72
  go_wp2
  have hb0 := Lib.hid (Blk.new w 24 #[.string (B r.1), .string (B r.2)])
  go_loopw [9, 10] (fun v1 v2 wr => ∃ i j : Nat, i ≤ j ∧ j ≤ l.length ∧ v1 = .int .i64 i ∧ v2 = .int .i64 j ∧ Hid (Parted l r i j) ∧ Hid (Gr (w.alloc (.cells #[.string (B r.1), .string (B r.2)] 24)) wr)) (fun v1 v2 _ => (intOf v2).toNat - (intOf v1).toNat)
  case atStart => exact ⟨0, l.length, by omega, by omega, rfl, rfl, ⟨fun k h h1 => absurd h1 (by omega), fun k h h1 => absurd h1 (by omega)⟩, Kp.refl _ _⟩
  case round =>
    obtain ⟨i, j, hij, hj, rfl, rfl, hp, hg⟩ := hrel
    by_cases hlt : i < j
    · go_wp2
      obtain ⟨m, hm, hm1, hm2⟩ : ∃ m : Nat, ((i : Int) + j) / 2 = m ∧ i ≤ m ∧ m < j := ⟨(i + j) / 2, by omega, by omega, by omega⟩
      have hml : m < l.length := by omega
      rw [hm]
      obtain ⟨ad, had, h0, h1⟩ := (RAt.get ((Hl.out.gr ((Kp.refl _ _).alloc _)).gr hg.out) hml)
      subst had
      obtain ⟨b0, b1, _, _⟩ := (hb0.out.gr hg.out).two
      have HF : ∀ w', Gr wr w' → w'.cell? (ad.add (m * 2)) = some (.string (B l[m].1)) ∧ w'.cell? ⟨(ad.add (m * 2)).block, (ad.add (m * 2)).off + 1, none⟩ = some (.string (B l[m].2)) ∧ w'.cell? ⟨w.heap.size, 0, none⟩ = some (.string (B r.1)) ∧ w'.cell? ⟨w.heap.size, 1, none⟩ = some (.string (B r.2)) :=
        fun w' hG => ⟨Gr.cell hG h0, Gr.cell hG h1, Gr.cell hG b0, Gr.cell hG b1⟩
      clear h0 h1 b0 b1
      replace HF := Lib.hid HF
      have He := enters' Try.func53 (by kernel_rfl) rfl
      refine wp_region_S (fun _ => False) [(0, true), (1, true), (2, true), (3, true), (4, true), (5, true), (6, true), (7, true)] (by kernel_rfl) (by kernel_rfl) ?_
      iterate 6 (
        refine rp_val (v := ?_) rfl (fun _ _ _ h => h) rfl (fun w' hG => ?_) ?_
        rotate_left
        · have hF := HF.out w' hG
          clear hG
          go_simp
          try with_reducible rfl
        simp only [Act.put, List.setIfInBounds_toArray, List.set_cons_zero, List.set_cons_succ])
      refine rp_call (v := .int .i64 (byLeft l[m] r)) (f := 53) (args := #[.agg #[.string (B l[m].1), .string (B l[m].2)], .agg #[.string (B r.1), .string (B r.2)]]) rfl (fun _ _ _ h => h) rfl (fun w' => ?_) (fun w' hG => ?_) ?_
      · go_simp
      · exact (byLeft_D _ _ _).mono fun e w'' h => ⟨h.1, h.2.gr⟩
      simp only [Act.put, List.setIfInBounds_toArray, List.set_cons_zero, List.set_cons_succ]
      by_cases hb : byLeft l[m] r < 0
      · skip
        iterate 1 (
          refine rp_val (v := ?_) rfl (fun _ _ _ h => h) rfl (fun w' hG => ?_) ?_
          rotate_left
          · clear hG
            go_simp
            try with_reducible rfl
          simp only [Act.put, List.setIfInBounds_toArray, List.set_cons_zero, List.set_cons_succ])
        refine rp_done fun w4 hG4 => ?_
        go_wp2
        exact ⟨⟨m + 1, j, by omega, hj, by go_num, rfl, hp.out.lo Hs.out hml hb, hg.out.trans hG4⟩, by simp [intOf]; omega⟩
      · skip
        iterate 1 (
          refine rp_val (v := ?_) rfl (fun _ _ _ h => h) rfl (fun w' hG => ?_) ?_
          rotate_left
          · clear hG
            go_simp
            try with_reducible rfl
          simp only [Act.put, List.setIfInBounds_toArray, List.set_cons_zero, List.set_cons_succ])
        refine rp_done fun w4 hG4 => ?_
        go_wp2
        exact ⟨⟨i, m, by omega, by omega, rfl, by go_num, hp.out.hi Hs.out hml hb, hg.out.trans hG4⟩, by simp [intOf]; omega⟩
    · have hij' : i = j := by omega
      subst hij'
      by_cases hil : i < l.length
      · go_wp2
        obtain ⟨ad, had, h0, h1⟩ := (RAt.get ((Hl.out.gr ((Kp.refl _ _).alloc _)).gr hg.out) hil)
        subst had
        obtain ⟨b0, b1, _, _⟩ := (hb0.out.gr hg.out).two
        have HF : ∀ w', Gr wr w' → w'.cell? (ad.add (i * 2)) = some (.string (B l[i].1)) ∧ w'.cell? ⟨(ad.add (i * 2)).block, (ad.add (i * 2)).off + 1, none⟩ = some (.string (B l[i].2)) ∧ w'.cell? ⟨w.heap.size, 0, none⟩ = some (.string (B r.1)) ∧ w'.cell? ⟨w.heap.size, 1, none⟩ = some (.string (B r.2)) :=
          fun w' hG => ⟨Gr.cell hG h0, Gr.cell hG h1, Gr.cell hG b0, Gr.cell hG b1⟩
        clear h0 h1 b0 b1
        replace HF := Lib.hid HF
        have He := enters' Try.func53 (by kernel_rfl) rfl
        refine wp_region_S (fun _ => False) [(0, true), (1, true), (2, true), (3, true), (4, true), (5, true), (6, true), (7, true), (8, true), (9, true), (10, true), (11, true), (12, true), (13, true), (14, true), (15, true)] (by kernel_rfl) (by kernel_rfl) ?_
        iterate 11 (
          refine rp_val (v := ?_) rfl (fun _ _ _ h => h) rfl (fun w' hG => ?_) ?_
          rotate_left
          · have hF := HF.out w' hG
            clear hG
            go_simp
            try with_reducible rfl
          simp only [Act.put, List.setIfInBounds_toArray, List.set_cons_zero, List.set_cons_succ])
        refine rp_call (v := .int .i64 (byLeft l[i] r)) (f := 53) (args := #[.agg #[.string (B l[i].1), .string (B l[i].2)], .agg #[.string (B r.1), .string (B r.2)]]) rfl (fun _ _ _ h => h) rfl (fun w' => ?_) (fun w' hG => ?_) ?_
        · go_simp
        · exact (byLeft_D _ _ _).mono fun e w'' h => ⟨h.1, h.2.gr⟩
        simp only [Act.put, List.setIfInBounds_toArray, List.set_cons_zero, List.set_cons_succ]
        iterate 4 (
          refine rp_val (v := ?_) rfl (fun _ _ _ h => h) rfl (fun w' hG => ?_) ?_
          rotate_left
          · clear hG
            go_simp
            try with_reducible rfl
          simp only [Act.put, List.setIfInBounds_toArray, List.set_cons_zero, List.set_cons_succ])
        refine rp_done fun w4 hG4 => ?_
        go_wp2
        go_ret2
        refine ⟨i, hj, hp.out, ?_, (((Kp.refl _ _).alloc _).trans hg.out).trans hG4⟩
        have hf : (byLeft l[i] r == 0) = (l[i]? == some r) := by
          rw [List.getElem?_eq_getElem hil, Bool.eq_iff_iff, beq_iff_eq, beq_iff_eq, Option.some.injEq]
          exact ⟨bl_eq, fun h => by rw [h, bl_self]⟩
        rw [← hf]
        rfl
      · go_wp2
        refine wp_region_S (fun _ => False) [(0, true), (1, true), (2, true), (3, true), (4, true), (5, true), (6, true), (7, true), (8, true), (9, true), (10, true), (11, true), (12, true), (13, true), (14, true), (15, true)] (by kernel_rfl) (by kernel_rfl) ?_
        iterate 5 (
          refine rp_val (v := ?_) rfl (fun _ _ _ h => h) rfl (fun w' hG => ?_) ?_
          rotate_left
          · clear hG
            go_simp
            try with_reducible rfl
          simp only [Act.put, List.setIfInBounds_toArray, List.set_cons_zero, List.set_cons_succ])
        iterate 8 (
          refine rp_skip rfl (fun _ _ _ h => h) rfl ?_
          simp only [Act.put, List.setIfInBounds_toArray, List.set_cons_zero, List.set_cons_succ])
        iterate 3 (
          refine rp_val (v := ?_) rfl (fun _ _ _ h => h) rfl (fun w' hG => ?_) ?_
          rotate_left
          · clear hG
            go_simp
            try with_reducible rfl
          simp only [Act.put, List.setIfInBounds_toArray, List.set_cons_zero, List.set_cons_succ])
        refine rp_done fun w4 hG4 => ?_
        go_wp2
        go_ret2
        refine ⟨i, hj, hp.out, ?_, (((Kp.refl _ _).alloc _).trans hg.out).trans hG4⟩
        have hf : false = (l[i]? == some r) := by rw [List.getElem?_eq_none (by omega)]; rfl
        rw [← hf]
        rfl
end Go.Proofs.Ytffghamcggadcaa
