/- Maps of the call's own: strings to numbers (the number of a state is its place in a list). -/
import Derived.Test.YtffghamcggadcaaAq
import Derived.Test.YtffghamcggadcaaC5
import Derived.Maps.OwnOps
import Derived.Maps.OwnSet
import Derived.Maps.Views
import Derived.StringKeys
import Derived.Deep.LoopGhost
namespace Go.Proofs.Ytffghamcggadcaa
open Go.RowKit Go.Maps
set_option linter.unusedVariables false
set_option linter.unusedSimpArgs false
attribute [local go_sem] B_size B_toList B_append B_extract B_get take_rest
abbrev DWs := DataW Unit
theorem Kp.of_grownS {w w' : World} {b : Nat} (h : w.grownBy w' (some b)) : Kp (· = b) w w' := ⟨h.os, h.tape, h.output, h.size, fun k hk hs => h.block k hk (fun e => hs (by injection e))⟩
theorem keyedS : Keyed Try.prog 9 := string_keyed Try.underlying9
theorem keyS (s : Str) (h : s.length ≤ 1000000000) : keyOf Try.prog 9 (.string (B s)) = some (.string s) := by
  have h1 := Go.WideMaps.keyOf_string_mk (s := B s) Try.underlying9 (by rw [B_size]; simp only [maxLen]; omega)
  rw [B_data] at h1
  exact h1
noncomputable abbrev RI := plainElem (H := Unit) Try.prog 3
theorem zeroI (w : World) : (zeroValue 3).run Try.prog w = .ok (.int .i64 0) w := by kernel_rfl
def ReadsS (D : DWs) (P : List Str) : Prop := ∀ s : Str, s.length ≤ 1000000000 →
  has D (.string s) = decide (s ∈ P) ∧ D.atKey (.string s) (.lit (.int .i64 0)) = .lit (.int .i64 (if s ∈ P then ((P.idxOf s : Nat) : Int) else 0))
/-- block b is a map that gives each string of P its place -/
def KS (w : World) (b n : Nat) (P : List Str) : Prop := ∃ D : DWs, w.ownsMap Try.prog 9 RI b n D ∧ ReadsS D P
theorem KS.made (w : World) : KS (w.alloc (.map #[] 0)) w.heap.size 0 [] := ⟨.map [], World.ownsMap_made w _ _ _, fun r _ => ⟨rfl, rfl⟩⟩
theorem KS.kp {S : Nat → Prop} {w w' : World} {b n : Nat} {P : List Str} (h : KS w b n P) (hk : Kp S w w') (hs : ¬ S b) : KS w' b n P := by
  obtain ⟨D, ho, hr⟩ := h
  have hlt := ho.lt
  obtain ⟨es, clock, hb, F, hs', hD⟩ := ho
  exact ⟨D, ⟨es, clock, (hk.block b hlt hs).trans hb, F, hs', hD⟩, hr⟩
theorem KS.gr {w w' : World} {b n : Nat} {P : List Str} (h : KS w b n P) (hk : Gr w w') : KS w' b n P := h.kp hk fun h => h
theorem KS.lt {w : World} {b n : Nat} {P : List Str} (h : KS w b n P) : b < w.heap.size := by obtain ⟨D, ho, _⟩ := h; exact ho.lt
theorem KS.mono {w : World} {b n m : Nat} {P : List Str} (h : KS w b n P) (hm : n ≤ m) : KS w b m P := by obtain ⟨D, ho, hr⟩ := h; exact ⟨D, ho.mono hm, hr⟩
theorem KS.look {w : World} {b n : Nat} {P : List Str} (h : KS w b n P) (s : Str) (hs : s.length ≤ 1000000000) :
    (Instr.lookup 80 (.map (some b)) (.string (B s)) true).run Try.prog w = .ok (.tuple #[.int .i64 (if s ∈ P then ((P.idxOf s : Nat) : Int) else 0), .bool (decide (s ∈ P))]) w := by
  obtain ⟨D, ho, hrd⟩ := h
  obtain ⟨v, ps, hrun, hv⟩ := ho.look_ok keyedS Try.underlying80 (zeroI w) (plainElem_int Try.underlying3 (by decide)) (keyS s hs)
  obtain ⟨h1, h2⟩ := hrd s hs
  rw [h2] at hv
  obtain ⟨c, rfl, hc, _⟩ := plainElem_int_inv Try.underlying3 hv
  simp only [Prod.mk.injEq, DataW.lit.injEq, Lit.int.injEq, true_and] at hc
  rw [hrun, h1, hc.1]
theorem KS.put {w : World} {b n : Nat} {P : List Str} (h : KS w b n P) (hn : n < 1000000000) (hP : P.length ≤ 1000000000) (s : Str) (hs : s.length ≤ 1000000000) (hnot : s ∉ P) :
    ∃ w', (Instr.mapUpdate 80 (.map (some b)) (.string (B s)) (.int .i64 (P.length : Int))).run Try.prog w = .ok () w' ∧ KS w' b (n + 1) (P ++ [s]) ∧ Kp (· = b) w w' := by
  obtain ⟨D, ho, hrd⟩ := h
  obtain ⟨w', hrun, ho', hg⟩ := ho.update keyedS Try.underlying80 (by simp only [maxLen]; omega) (keyS s hs) (plainElem_int (q := .i64) (a := (P.length : Int)) Try.underlying3 (WalkArith.wf_i64 (by omega)))
  refine ⟨w', hrun, ⟨D.put (.string s) (.lit (.int .i64 (P.length : Int))), ho', ?_⟩, Kp.of_grownS hg⟩
  intro x hx
  by_cases e : x = s
  · subst e
    refine ⟨?_, ?_⟩
    · rw [has_put_same ho.isMap (keyedS.key (keyS x hs))]; simp
    · rw [atKey_put_same ho.isMap (keyedS.key (keyS x hs))]
      simp [List.idxOf_append, hnot]
  · have hne : Lit.string x ≠ Lit.string s := fun h => e (by injection h)
    obtain ⟨h1, h2⟩ := hrd x hx
    refine ⟨?_, ?_⟩
    · rw [has_put_other hne, h1]
      simp [e]
    · rw [atKey_put_other hne, h2]
      by_cases hm : x ∈ P
      · simp [hm, List.idxOf_append]
      · simp [hm, e]
end Go.Proofs.Ytffghamcggadcaa
