/- Contracts: normal forms of a pair, the directed rule, the order of rules, systems and equations. Conditions: the lengths stay within int. -/
import Derived.Test.YtffghamcggadcaaC2
namespace Go.Proofs.Ytffghamcggadcaa
open Go.RowKit
set_option linter.unusedVariables false
set_option linter.unusedSimpArgs false
attribute [local go_sem] B_size B_toList B_append B_extract B_get take_rest
def nfS (x : Option (Str × Nat)) : Str := match x with | none => [] | some (t, _) => t
def nfN (x : Option (Str × Nat)) : Nat := match x with | none => 0 | some (_, n) => n
theorem normV_eq (x : Option (Str × Nat)) : normV x = .tuple #[.string (B (nfS x)), .int .i64 (nfN x), .bool x.isSome] := by
  rcases x with _ | ⟨t, n⟩ <;> rfl
set_option maxHeartbeats 1000000 in
set_option maxRecDepth 20000 in
theorem forms_any (l : List Rule) (a b : Str) (A : Option Addr) (c : Nat) (w : World) (ha : a.length ≤ 1000000000) (hb : b.length ≤ 1000000000) (hn : l.length ≤ 1000000000) (hd : Dec l) (hl : RAt w A l) :
    Calls Try.prog 30 #[.slice A l.length c, .agg #[.string (B a), .string (B b)]] w
      fun e w' => e = .returned (.tuple #[.string (B (nfS (normal l a))), .string (B (nfS (normal l b))), .bool ((normal l a).isSome && (normal l b).isSome)]) ∧ Gr w w' := by
  have Hl := Lib.hid hl
  have Hd := Lib.hid hd
  clear hl hd
  have hbl := (Blk.new w 70 #[.string (B a), .string (B b)])
  go_enter Try.func30, Try.ntmps30
  go_wp2_with fail
  refine (normal_any l a _ _ _ (by assumption) (by assumption) Hd.out (by exact Hl.out.gr ((Kp.refl _ _).alloc _))).mono ?_
  rintro e w1 ⟨rfl, hg1⟩
  rw [normV_eq]
  have hc := (hbl.gr hg1).two
  have Hg1 := Lib.hid hg1
  clear hg1
  go_wp2_with fail
  refine (normal_any l b _ _ _ (by assumption) (by assumption) Hd.out (by exact Hl.out.gr (((Kp.refl _ _).alloc _).trans Hg1.out))).mono ?_
  rintro e w2 ⟨rfl, hg2⟩
  rw [normV_eq]
  have Hg2 := Lib.hid hg2
  clear hg2
  rcases h1 : (normal l a).isSome with _ | _
  all_goals
    go_wp2
    go_ret3
    exact ⟨by rw [h1]; rfl, (((Kp.refl _ _).alloc _).trans Hg1.out).trans Hg2.out⟩
set_option maxHeartbeats 1000000 in
theorem byLeft_any (a b : Rule) (w : World) (h1 : a.1.length ≤ 1000000000) (h2 : a.2.length ≤ 1000000000) (h3 : b.1.length ≤ 1000000000) (h4 : b.2.length ≤ 1000000000) :
    Calls Try.prog 53 #[.agg #[.string (B a.1), .string (B a.2)], .agg #[.string (B b.1), .string (B b.2)]] w
      fun e w' => e = .returned (.int .i64 (byLeft a b)) ∧ Gr w w' := by
  go_enter Try.func53, Try.ntmps53
  go_wp2
  refine wp_region_S (fun _ => False) [(0, true), (1, true), (2, true), (3, true), (4, true), (5, true), (6, true), (7, true), (8, true), (9, true), (10, false), (11, false), (12, true)] (by kernel_rfl) (by kernel_rfl) ?_
  have hb1 := ((Blk.new w 24 #[.string (B a.1), .string (B a.2)]).alloc (.cells #[.string (B b.1), .string (B b.2)] 24)).two
  have hb2 := (Blk.new (w.alloc (.cells #[.string (B a.1), .string (B a.2)] 24)) 24 #[.string (B b.1), .string (B b.2)]).two
  simp only [World.size_alloc] at hb2
  have HF : ∀ w', Gr ((w.alloc (.cells #[.string (B a.1), .string (B a.2)] 24)).alloc (.cells #[.string (B b.1), .string (B b.2)] 24)) w' → w'.cell? ⟨w.heap.size, 0, none⟩ = some (.string (B a.1)) ∧ w'.cell? ⟨w.heap.size, 1, none⟩ = some (.string (B a.2)) ∧ w'.cell? ⟨w.heap.size + 1, 0, none⟩ = some (.string (B b.1)) ∧ w'.cell? ⟨w.heap.size + 1, 1, none⟩ = some (.string (B b.2)) :=
    fun w' hG => ⟨Gr.cell hG hb1.1, Gr.cell hG hb1.2.1, Gr.cell hG hb2.1, Gr.cell hG hb2.2.1⟩
  clear hb1 hb2
  replace HF := Lib.hid HF
  iterate 4 (
    refine rp_val (v := ?_) rfl (fun _ _ _ h => h) rfl (fun w' hG => ?_) ?_
    rotate_left
    · have hF := HF.out w' hG
      clear hG
      go_simp
      try with_reducible rfl
    simp only [Act.put, List.setIfInBounds_toArray, List.set_cons_zero, List.set_cons_succ])
  refine rp_call (v := .int .i64 (orderS a.1 b.1)) (f := 48) (args := #[.string (B a.1), .string (B b.1)]) rfl (fun _ _ _ h => h) rfl (fun w' => ?_) (fun w' hG => ?_) ?_
  · go_simp
  · exact order_any _ _ _ h1 h3
  simp only [Act.put, List.setIfInBounds_toArray, List.set_cons_zero, List.set_cons_succ]
  iterate 4 (
    refine rp_val (v := ?_) rfl (fun _ _ _ h => h) rfl (fun w' hG => ?_) ?_
    rotate_left
    · have hF := HF.out w' hG
      clear hG
      go_simp
      try with_reducible rfl
    simp only [Act.put, List.setIfInBounds_toArray, List.set_cons_zero, List.set_cons_succ])
  refine rp_call (v := .int .i64 (orderS a.2 b.2)) (f := 48) (args := #[.string (B a.2), .string (B b.2)]) rfl (fun _ _ _ h => h) rfl (fun w' => ?_) (fun w' hG => ?_) ?_
  · go_simp
  · exact order_any _ _ _ h2 h4
  simp only [Act.put, List.setIfInBounds_toArray, List.set_cons_zero, List.set_cons_succ]
  refine rp_loud rfl (by rfl) (fun w1 hG1 K hK => ?_)
  replace hK := Lib.hid hK
  go_simp
  refine hK.out _ _ ((Kp.refl _ _).alloc _) ?_
  clear hK
  have hb3 := (Blk.new w1 3 #[.int .i64 (orderS a.1 b.1), .int .i64 (orderS a.2 b.2)])
  refine rp_loud rfl (by rfl) (fun w2 hG2 K hK => ?_)
  replace hK := Lib.hid hK
  go_simp
  have hb4 := (hb3.gr hG2).two
  refine (orInt_any (orderS a.1 b.1) (orderS a.2 b.2) _ _ _ hb4.1 hb4.2.1).mono ?_
  rintro e w3 ⟨rfl, rfl⟩
  refine hK.out _ _ (Kp.refl _ _) ?_
  clear hK
  iterate 1 (
    refine rp_val (v := ?_) rfl (fun _ _ _ h => h) rfl (fun w' hG => ?_) ?_
    rotate_left
    · clear hG
      go_simp
      try with_reducible rfl
    simp only [Act.put, List.setIfInBounds_toArray, List.set_cons_zero, List.set_cons_succ])
  refine rp_done fun w4 hG4 => ?_
  go_wp2
  go_ret
  exact ⟨rfl, ((((((Kp.refl _ _).alloc _).alloc _).trans hG1).alloc _).trans hG2).trans hG4⟩
set_option maxHeartbeats 1000000 in
set_option maxRecDepth 20000 in
theorem directed_any (a b : Str) (w : World) (ha : a.length ≤ 1000000000) (hb : b.length ≤ 1000000000) :
    Calls Try.prog 40 #[.string (B a), .string (B b)] w
      fun e w' => e = .returned (.agg #[.string (B (directed a b).1), .string (B (directed a b).2)]) ∧ Gr w w' := by
  by_cases h : orderS a b < 0
  all_goals
    have Hd := Lib.hid (show directed a b = if orderS a b < 0 then (b, a) else (a, b) from rfl)
    go_enter Try.func40, Try.ntmps40
    go_wp2_with fail
    refine (order_any a b _ ha hb).mono ?_
    rintro e w1 ⟨rfl, hg1⟩
    have hb1 := ((Blk.new w 24 #[.string ⟨#[]⟩, .string ⟨#[]⟩]).gr hg1).two
    have Hg1 := Lib.hid hg1
    clear hg1
    go_wp2
  · refine bodyPost_ret (v := .agg #[.string (B (directed a b).1), .string (B (directed a b).2)]) ?_ rfl ⟨rfl, Gr.kp (((Kp.refl _ _).alloc _).trans Hg1.out) (Kp.set2 _ _ _ _ _ _) (fun i h1 h2 => by omega)⟩
    rw [Hd.out, if_pos h]
    simp [results, Try.results40, go_sem, hb1]
  · refine bodyPost_ret (v := .agg #[.string (B (directed a b).1), .string (B (directed a b).2)]) ?_ rfl ⟨rfl, Gr.kp (((Kp.refl _ _).alloc _).trans Hg1.out) (Kp.set2 _ _ _ _ _ _) (fun i h1 h2 => by omega)⟩
    rw [Hd.out, if_neg (by omega)]
    simp [results, Try.results40, go_sem, hb1]
set_option maxHeartbeats 1000000 in
theorem isSystem1_any (r : Rule) (w : World) (h1 : r.1.length ≤ 1000000000) (h2 : r.2.length ≤ 1000000000) :
    Calls Try.prog 47 #[.agg #[.string (B r.1), .string (B r.2)]] w fun e w' => e = .returned (.bool (!isRule r)) ∧ Gr w w' := by
  have hb := Blk.new w 24 #[.string (B r.1), .string (B r.2)]
  rcases he : isEq (r.1, r.2) with _ | _
  · go_enter Try.func47, Try.ntmps47
    go_wp2_with fail
    refine (isEquation_any r.1 r.2 _ h1 h2).mono ?_
    rintro e w1 ⟨rfl, hg1⟩
    have hb1 := (hb.gr hg1).two
    have Hg1 := Lib.hid hg1
    clear hg1
    rw [he]
    go_wp2
    go_ret
    exact ⟨ret_bool (by simp [isRule, he]), ((Kp.refl _ _).alloc _).trans Hg1.out⟩
  · go_enter Try.func47, Try.ntmps47
    go_wp2_with fail
    refine (isEquation_any r.1 r.2 _ h1 h2).mono ?_
    rintro e w1 ⟨rfl, hg1⟩
    have hb1 := (hb.gr hg1).two
    have Hg1 := Lib.hid hg1
    clear hg1
    rw [he]
    go_wp2_with fail
    refine (order_any r.1 r.2 _ h1 h2).mono ?_
    rintro e w2 ⟨rfl, hg2⟩
    have Hg2 := Lib.hid hg2
    clear hg2
    go_wp2
    go_ret
    refine ⟨ret_bool ?_, (((Kp.refl _ _).alloc _).trans Hg1.out).trans Hg2.out⟩
    simp [isRule, he, gt]
    rw [Bool.eq_iff_iff]; simp
end Go.Proofs.Ytffghamcggadcaa
