/- Contracts: the automaton's step. -/
import Derived.Test.YtffghamcggadcaaMs
namespace Go.Proofs.Ytffghamcggadcaa
open Go.RowKit Go.Maps
set_option linter.unusedVariables false
set_option linter.unusedSimpArgs false
attribute [local go_sem] B_size B_toList B_append B_extract B_get take_rest
set_option maxHeartbeats 1000000 in
theorem stepF_any (r : Rule) (s : Str) (g : Nat) (w : World) (h : w.cell? ⟨g, 0, none⟩ = some (.string (B s))) (hs : s.length ≤ 1000000000) (h1 : r.1.length ≤ 1000000000) :
    Calls Try.prog 63 #[.agg #[.string (B r.1), .string (B r.2)], .pointer (some ⟨g, 0, none⟩)] w fun e w' => e = .returned (.bool (suf r.1 s)) ∧ Gr w w' := by
  have hb := (Blk.new w 24 #[.string (B r.1), .string (B r.2)]).two
  have hg := Gr.cell ((Kp.refl (fun _ => False) w).alloc (.cells #[.string (B r.1), .string (B r.2)] 24)) h
  go_enter Try.func63, Try.ntmps63
  go_wp2_with fail
  refine (hasSuffix_any _ _ _ (by assumption) (by assumption)).mono ?_
  rintro e w1 ⟨rfl, rfl⟩
  go_wp2
  go_ret
  exact ⟨rfl, (Kp.refl _ _).alloc _⟩
set_option maxHeartbeats 1000000 in
set_option maxRecDepth 20000 in
theorem step_any (l : List Rule) (P : List Str) (s : Str) (A : Option Addr) (c b n : Nat) (w : World) (hn : l.length ≤ 64) (hL : ∀ r ∈ l, r.1.length ≤ 24) (hs : s.length ≤ 1000) (hP : [] ∈ P) (hl : RAt w A l) (hm : KS w b n P) :
    Calls Try.prog 44 #[.slice A l.length c, .map (some b), .string (B s)] w fun e w' => e = .returned (.int .i64 (stepN l P s)) ∧ Gr w w' := by
  have Hl := Lib.hid hl
  have HL := Lib.hid hL
  have HP := Lib.hid hP
  have Hm := Lib.hid hm
  clear hl hL hP hm
  have hb0 := Lib.hid (Blk.new w 9 #[.string (B s)])
  go_enter Try.func44, Try.ntmps44
  go_wp2_with fail
  refine (containsFunc_any l A c 63 #[.pointer (some ⟨w.heap.size, 0, none⟩)] (fun r => suf r.1 s) _ (by omega) (Hl.out.gr ((Kp.refl _ _).alloc _)) (enters' Try.func63 (by kernel_rfl) rfl) (fun w' r hg hr => ?_)).mono ?_
  · have h1 := HL.out r hr
    exact stepF_any r s _ w' ((hb0.out.gr hg).cell 0) (by omega) (by omega)
  rintro e w1 ⟨rfl, hg1⟩
  have Hb1 := Lib.hid (hb0.out.gr hg1)
  have Hg1 := Lib.hid (((Kp.refl (fun _ => False) w).alloc (.cells #[.string (B s)] 9)).trans hg1)
  clear hg1
  rcases he : l.any (fun r => suf r.1 s) with _ | _
  · have He := Lib.hid he
    clear he
    go_wp2
    go_loopg [] s.length (fun k wr => ∃ t : Str, t.length = k ∧ k ≤ s.length ∧ Hid (longest P s = longest P t) ∧ Hid (Gr w wr) ∧ Hid (Blk wr w.heap.size 9 #[.string (B t)]))
    case atStart => exact ⟨s, rfl, Nat.le_refl _, rfl, Hg1, Hb1⟩
    case round =>
      obtain ⟨t, rfl, hk, hlt, hg, hb⟩ := hrel
      have hlook := (Hm.out.gr hg.out).look t (by omega)
      have hc := hb.out.cell 0
      have hfz := hb.out.frozen 0
      simp at hc
      by_cases hmem : t ∈ P
      · have hd : decide (t ∈ P) = true := by simpa using hmem
        rw [hd, if_pos hmem] at hlook
        have Hmem := Lib.hid hmem
        clear hmem hd
        go_wp2
        go_ret
        refine ⟨ret_int ?_, hg.out⟩
        unfold stepN endsL
        rw [He.out, if_neg (by simp), hlt.out, longest_hit Hmem.out]
      · have hd : decide (t ∈ P) = false := by simpa using hmem
        rw [hd, if_neg hmem] at hlook
        obtain ⟨h1, h2⟩ := longest_miss hmem HP.out
        have hpos : 1 ≤ t.length := by
          cases t with
          | nil => exact absurd rfl h2
          | cons => simp
        have H1 := Lib.hid h1
        clear hmem hd h1 h2
        go_wp2
        go_roundg (t.length - 1)
        case measure => omega
        case rel => exact ⟨t.drop 1, by simp, by omega, Lib.hid (hlt.out.trans H1.out), Lib.hid (Gr.kp hg.out ((Kp.refl (· = w.heap.size) _).setCell (fun _ => rfl) _) (fun i h1 h2 => by omega)), Lib.hid (by rw [show List.take (t.length - 1) (List.tail t) = List.drop 1 t from by rw [List.take_of_length_le (by simp), List.drop_one]]; exact hb.out.set_ 0 _)⟩
  · have He := Lib.hid he
    clear he
    go_wp2
    go_ret
    refine ⟨ret_int ?_, Hg1.out⟩
    unfold stepN endsL
    rw [He.out]
    rfl
end Go.Proofs.Ytffghamcggadcaa
