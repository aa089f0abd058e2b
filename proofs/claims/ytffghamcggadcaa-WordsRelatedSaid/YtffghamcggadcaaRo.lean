/- Contracts of the reference: a rule from the greater side to the lesser one. -/
import Derived.Test.YtffghamcggadcaaR1
import Derived.Test.YtffghamcggadcaaTd
namespace Go.Proofs.Ytffghamcggadcaa
open Go.RowKit Go.Maps
set_option linter.unusedVariables false
set_option linter.unusedSimpArgs false
attribute [local go_sem] B_size B_toList B_append B_extract B_get take_rest
set_option maxHeartbeats 1000000 in
theorem Oriented_any (a b : Str) (w : World) (ha : a.length ≤ 1000000000) (hb : b.length ≤ 1000000000) :
    Calls Try.prog 32 #[.string (B a), .string (B b)] w
      fun e w' => e = .returned (.agg #[.string (B (directed a b).1), .string (B (directed a b).2)]) ∧ Gr w w' := by
  have hbl := (Blk.new w 24 #[.string ⟨#[]⟩, .string ⟨#[]⟩]).two
  rcases hg : gt a b with _ | _
  · have hd := Lib.hid (show directed a b = (b, a) from by
      unfold directed
      by_cases h : orderS a b < 0
      · rw [if_pos h]
      · rw [if_neg h]
        have h1 : ¬ orderS b a < 0 := fun h' => by rw [gt_iff.2 h'] at hg; cases hg
        have h2 := os_anti a b
        have h3 := os_eq (show orderS a b = 0 from by omega)
        rw [h3])
    go_enter Try.func32, Try.ntmps32
    go_wp2_with fail
    refine (greater_any a b _ ha hb).mono ?_
    rintro e w1 ⟨rfl, rfl⟩
    rw [hg]
    go_wp2
    refine bodyPost_ret (v := .agg #[.string (B (directed a b).1), .string (B (directed a b).2)]) ?_ rfl ⟨rfl, (Kp.refl _ _).alloc _⟩
    rw [hd.out]
    have hbl2 := (Blk.new w 24 #[.string (B b), .string (B a)]).two
    simp [results, Try.results32, go_sem, hbl2]
  · have hd := Lib.hid (show directed a b = (a, b) from by
      unfold directed
      rw [gt_iff] at hg
      have h2 := os_anti a b
      rw [if_neg (by omega)])
    go_enter Try.func32, Try.ntmps32
    go_wp2_with fail
    refine (greater_any a b _ ha hb).mono ?_
    rintro e w1 ⟨rfl, rfl⟩
    rw [hg]
    go_wp2
    refine bodyPost_ret (v := .agg #[.string (B (directed a b).1), .string (B (directed a b).2)]) ?_ rfl ⟨rfl, (Kp.refl _ _).alloc _⟩
    rw [hd.out]
    have hbl2 := (Blk.new w 24 #[.string (B a), .string (B b)]).two
    simp [results, Try.results32, go_sem, hbl2]
theorem wpl_appendN {P : Program} {α : Type} {enc : α → List Value} {sz : Nat} {t e : TypeId} {w : World} {base : Nat} {v : Value} {l m : List α} {A : Option Addr} {ops : Array Oper} {rest : List Oper} {o : Oper} {a : Act} {Q : Exit → Act → World → Prop} (hgd : o.guard = none) (henc : EncOk enc sz) (hE : ElemOk P t e sz) (s x : Operand)
    (ho : o.op = .call { callee := .builtin .append, args := #[s, x], argTypes := #[t, t] }) (hs : a.eval s = v) (hown : Own enc sz e w base v l) (n c nn : Nat) (hml : m.length = n) (hx : a.eval x = .slice A n c)
    (hm : At enc sz w A m) (hnn : (l ++ m).length = nn) (hlen : nn ≤ 2000000000) (hbase : base ≤ w.heap.size)
    (h : ∀ A' c' w', Own enc sz e w' base (.slice A' nn c') (l ++ m) → nn ≤ c' → c' ≤ maxLen → Kp (fun b => v.ownBlock = some b) w w' → ((Value.slice A' nn c').ownBlock = v.ownBlock ∨ (Value.slice A' nn c').ownBlock = some w.heap.size) → wpList P ops Q rest (a.put o.dst (.slice A' nn c')) w') : wpList P ops Q (o :: rest) a w := by
  subst hml hnn
  refine wpl_append hgd henc hE s x ho hs hown c hx hm (by rw [List.length_append] at hlen; exact hlen) hbase fun v' w' h1 h2 h3 => ?_
  obtain ⟨A', c', rfl, h4, h5⟩ := Own.slice h1
  exact h A' c' w' h1 h4 h5 h2 h3
end Go.Proofs.Ytffghamcggadcaa
