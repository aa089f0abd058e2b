/- WordsRelated, proved: replacing a side of an equation by the other side inside a string never leads to a string that Equal tells apart. No condition: for every input that can be read. -/
import Derived.Test.YtffghamcggadcaaJ3
import Derived.Test.YtffghamcggadcaaT5
namespace Go.Proofs.Ytffghamcggadcaa
open Go.ChangeShapes Go.WideShapes Go.ChangeAt Go.RowKit
set_option linter.unusedVariables false
set_option maxRecDepth 100000 in
theorem wordsRelated_lifted (os : Os) (started : os.Started) (H : Type) (enc : TypeId × Value → H) :
    ReturnsInHanded {} Try.checked os 4 .any (Rows.wordsRelatedSpec.pre6 enc Try.prog Try.f4 Rows.wordsRelatedRow.domain false) (Rows.wordsRelatedSpec.post enc Try.prog Try.f4 false true false false) := by
  refine returnsInHanded_of_change_shaped (C := Try.checked) own_ started (by kernel_rfl) Try.func4
    (ChangeSpec.witness6 (enc := enc) (C := Try.checked) false ⟨#[], #[.slice none 0 0, .string ⟨#[]⟩, .slice none 0 0], []⟩ 8 (by kernel_rfl) (by kernel_rfl) (by kernel_rfl) (by kernel_rfl)) ?_
  intro W base args ds gs before hval0 hW _ _ hsh _
  have hval : ∀ (j : Nat) t v, Try.f4.params[j]? = some t → args[j]? = some v → Value.okWide Try.prog W .any base t v := hval0
  have hW' := hW
  obtain ⟨p, q, hA0, hV, rfl, _, _⟩ := hW
  have hA : DataW.TrodAll enc Try.prog W 0 (fun _ => true) true Try.f4.params.toList args.toList ds p := hA0
  rw [Try.params4] at hA hval
  obtain ⟨v0, v1, v2, d0, d1, d2, p0, p1, p2, rfl, rfl, rfl, h0, h1, h2⟩ := trodAll_three hA
  obtain ⟨rfl, rfl⟩ := trodVars_none hV
  obtain ⟨A, l, c, rfl, hn, hL, hl⟩ := open_rules (hval 0 25 v0 rfl rfl) h0
  obtain ⟨s, rfl, hs⟩ := open_str (hval 1 9 v1 rfl rfl) h1
  obtain ⟨A2, ns, c2, rfl, hn2, hI, hl2⟩ := open_nums (hval 2 37 v2 rfl rfl) h2
  obtain ⟨hz, hg⟩ := glob_ hsh
  have hlt0 : ∀ x ∈ p0, x.block < W.heap.size := fun x hx => hW'.lt x (by simp [hx])
  have hlt1 : ∀ x ∈ p1, x.block < W.heap.size := fun x hx => hW'.lt x (by simp [hx])
  have hlt2 : ∀ x ∈ p2, x.block < W.heap.size := fun x hx => hW'.lt x (by simp [hx])
  refine (WordsRelated_any l s ns A c A2 c2 W hn hL hl hs hn2 hI hl2 hz hg).mono fun e W' ⟨he, hgr⟩ => ?_
  subst he
  refine ⟨_, rfl, _, _, _, [], p0 ++ p1 ++ p2, [], hW', ?_, ?_, ?_, gr_frame hgr _, fun h => by cases h⟩
  · exact trodAll_mk1 (shut_bool Try.underlying4 true)
  · rw [List.append_assoc]
    exact trodAll_mk3 (read_again (by kernel_rfl) (of_decide_eq_true (by kernel_rfl)) h0 hlt0 hgr) (read_again (by kernel_rfl) (of_decide_eq_true (by kernel_rfl)) h1 hlt1 hgr) (read_again (by kernel_rfl) (of_decide_eq_true (by kernel_rfl)) h2 hlt2 hgr)
  · exact rfl
theorem wordsRelated_holds : Rows.WordsRelatedSaid :=
  OpenClaim.holds_of_wide 4 Try.f4 rfl rfl rfl rfl rfl rfl rfl ⟨rfl, rfl, rfl, rfl, rfl⟩ rfl rfl rfl rfl rfl (by kernel_rfl) Try.func4 (by kernel_rfl)
    (of_decide_eq_true (by kernel_rfl)) (by unfold Func.isWrapper; first | (rw [if_pos (by decide +kernel)]; kernel_rfl) | (rw [if_neg (by decide +kernel)]; exact ⟨rfl, rfl⟩))
    (fun os started H enc _ => wordsRelated_lifted os started H enc)
#print axioms wordsRelated_holds
end Go.Proofs.Ytffghamcggadcaa
