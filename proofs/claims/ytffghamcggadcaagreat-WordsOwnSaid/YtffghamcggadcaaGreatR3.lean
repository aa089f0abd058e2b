/- Contracts of the reference: the order of rules, putting in and leaving out. -/
import Derived.Test.YtffghamcggadcaaGreatR2
import Derived.Test.YtffghamcggadcaaGreatTd
namespace Go.Proofs.YtffghamcggadcaaGreat
open Go.RowKit Go.Maps
set_option linter.unusedVariables false
set_option linter.unusedSimpArgs false
attribute [local go_sem] B_size B_toList B_append B_extract B_get take_rest
set_option maxHeartbeats 1000000 in
theorem before_any (a b : Rule) (w : World) (h1 : a.1.length ≤ 1000000000) (h2 : a.2.length ≤ 1000000000) (h3 : b.1.length ≤ 1000000000) (h4 : b.2.length ≤ 1000000000) :
    Calls Tryz.prog 67 #[.agg #[.string (B a.1), .string (B a.2)], .agg #[.string (B b.1), .string (B b.2)]] w
      fun e w' => e = .returned (.bool (decide (byLeft a b < 0))) ∧ Gr w w' := by
  have hb1 := ((Blk.new w 41 #[.string (B a.1), .string (B a.2)]).alloc (.cells #[.string (B b.1), .string (B b.2)] 41)).two
  have hb2 := (Blk.new (w.alloc (.cells #[.string (B a.1), .string (B a.2)] 41)) 41 #[.string (B b.1), .string (B b.2)]).two
  simp only [World.size_alloc] at hb2
  by_cases h : a.1 = b.1
  · have he : (a.1 == b.1) = true := by simpa using h
    have hv := Lib.hid (show gt b.2 a.2 = decide (byLeft a b < 0) from by
      rw [Bool.eq_iff_iff, gt_iff, decide_eq_true_eq, bl_lt]
      constructor
      · exact fun h' => .inr ⟨h, h'⟩
      · rintro (h' | ⟨_, h'⟩)
        · rw [h, os_self] at h'; omega
        · exact h')
    clear h
    go_enter Tryz.func67, Tryz.ntmps67
    go_wp2_with fail
    refine (greater_any b.2 a.2 _ h4 h2).mono ?_
    rintro e w1 ⟨rfl, rfl⟩
    go_wp2
    go_ret
    exact ⟨ret_bool hv.out, ((Kp.refl _ _).alloc _).alloc _⟩
  · have he : (a.1 == b.1) = false := by simpa using h
    have hv := Lib.hid (show gt b.1 a.1 = decide (byLeft a b < 0) from by
      rw [Bool.eq_iff_iff, gt_iff, decide_eq_true_eq, bl_lt]
      constructor
      · exact fun h' => .inl h'
      · rintro (h' | ⟨h', _⟩)
        · exact h'
        · exact absurd h' h)
    clear h
    go_enter Tryz.func67, Tryz.ntmps67
    go_wp2_with fail
    refine (greater_any b.1 a.1 _ h3 h1).mono ?_
    rintro e w1 ⟨rfl, rfl⟩
    go_wp2
    go_ret
    exact ⟨ret_bool hv.out, ((Kp.refl _ _).alloc _).alloc _⟩
set_option maxHeartbeats 1000000 in
theorem Oriented_any (a b : Str) (w : World) (ha : a.length ≤ 1000000000) (hb : b.length ≤ 1000000000) :
    Calls Tryz.prog 35 #[.string (B a), .string (B b)] w
      fun e w' => e = .returned (.agg #[.string (B (directed a b).1), .string (B (directed a b).2)]) ∧ Gr w w' := by
  have hbl := (Blk.new w 41 #[.string ⟨#[]⟩, .string ⟨#[]⟩]).two
  rcases hg : gt a b with _ | _
  · have hd := Lib.hid (show directed a b = (b, a) from by
      unfold directed
      by_cases h : orderS a b < 0
      · rw [if_pos h]
      · rw [if_neg h]
        have h1 : ¬ orderS b a < 0 := fun h' => by rw [gt_iff.2 h'] at hg; cases hg
        have h2 := os_anti a b
        have h3 := os_eq (show orderS a b = 0 from by omega)
        rw [h3])
    go_enter Tryz.func35, Tryz.ntmps35
    go_wp2_with fail
    refine (greater_any a b _ ha hb).mono ?_
    rintro e w1 ⟨rfl, rfl⟩
    rw [hg]
    go_wp2
    refine bodyPost_ret (v := .agg #[.string (B (directed a b).1), .string (B (directed a b).2)]) ?_ rfl ⟨rfl, (Kp.refl _ _).alloc _⟩
    rw [hd.out]
    have hbl2 := (Blk.new w 41 #[.string (B b), .string (B a)]).two
    simp [results, Tryz.results35, go_sem, hbl2]
  · have hd := Lib.hid (show directed a b = (a, b) from by
      unfold directed
      rw [gt_iff] at hg
      have h2 := os_anti a b
      rw [if_neg (by omega)])
    go_enter Tryz.func35, Tryz.ntmps35
    go_wp2_with fail
    refine (greater_any a b _ ha hb).mono ?_
    rintro e w1 ⟨rfl, rfl⟩
    rw [hg]
    go_wp2
    refine bodyPost_ret (v := .agg #[.string (B (directed a b).1), .string (B (directed a b).2)]) ?_ rfl ⟨rfl, (Kp.refl _ _).alloc _⟩
    rw [hd.out]
    have hbl2 := (Blk.new w 41 #[.string (B a), .string (B b)]).two
    simp [results, Tryz.results35, go_sem, hbl2]
/-- a list comes back: it can be read -/
def GivesL (w : World) (l : List Rule) (e : Ending) (w' : World) : Prop := ∃ A c, e = .returned (.slice A l.length c) ∧ l.length ≤ c ∧ c ≤ maxLen ∧ (A = none → c = 0) ∧ RAt w' A l ∧ Gr w w'
theorem Own.none0 {α : Type} {enc : α → List Value} {sz : Nat} {e : TypeId} {w : World} {base n c : Nat} {A : Option Addr} {l : List α} (h : Own enc sz e w base (.slice A n c) l) : A = none → c = 0 := by
  rintro rfl
  rcases h.2 with ⟨hv, _⟩ | ⟨g, cap, cur, hv, _⟩
  · injection hv
  · cases hv
theorem GivesR.toL {w : World} {l : List Rule} {e : Ending} {w' : World} (h : GivesR w l e w') : GivesL w l e w' := by
  obtain ⟨v, rfl, hown, hg⟩ := h
  obtain ⟨A, c, rfl, h1, h2⟩ := Own.slice hown
  exact ⟨A, c, rfl, h1, h2, Own.none0 hown, Own.at_ encR_ok hown, hg⟩
/-- a part of a list from k on: what the slice of it points to -/
theorem RAt.rest {w : World} {ad : Addr} {l : List Rule} (h : RAt w (some ad) l) (k c : Nat) (hc : l.length ≤ c) : RAt w (if c = k then some ad else some (ad.add (k * 2))) (l.drop k) := by
  by_cases e : c = k
  · rw [if_pos e, List.drop_eq_nil_of_le (by omega)]
    exact At.nil _ _ _ _
  · rw [if_neg e]
    exact h.drop k
theorem wpl_appendN {P : Program} {α : Type} {enc : α → List Value} {sz : Nat} {t e : TypeId} {w : World} {base : Nat} {v : Value} {l m : List α} {A : Option Addr} {ops : Array Oper} {rest : List Oper} {o : Oper} {a : Act} {Q : Exit → Act → World → Prop} (hgd : o.guard = none) (henc : EncOk enc sz) (hE : ElemOk P t e sz) (s x : Operand)
    (ho : o.op = .call { callee := .builtin .append, args := #[s, x], argTypes := #[t, t] }) (hs : a.eval s = v) (hown : Own enc sz e w base v l) (n c nn : Nat) (hml : m.length = n) (hx : a.eval x = .slice A n c)
    (hm : At enc sz w A m) (hnn : (l ++ m).length = nn) (hlen : nn ≤ 2000000000) (hbase : base ≤ w.heap.size)
    (h : ∀ A' c' w', Own enc sz e w' base (.slice A' nn c') (l ++ m) → nn ≤ c' → c' ≤ maxLen → Kp (fun b => v.ownBlock = some b) w w' → ((Value.slice A' nn c').ownBlock = v.ownBlock ∨ (Value.slice A' nn c').ownBlock = some w.heap.size) → wpList P ops Q rest (a.put o.dst (.slice A' nn c')) w') : wpList P ops Q (o :: rest) a w := by
  subst hml hnn
  refine wpl_append hgd henc hE s x ho hs hown c hx hm (by rw [List.length_append] at hlen; exact hlen) hbase fun v' w' h1 h2 h3 => ?_
  obtain ⟨A', c', rfl, h4, h5⟩ := Own.slice h1
  exact h A' c' w' h1 h4 h5 h2 h3
set_option maxHeartbeats 4000000 in
set_option maxRecDepth 20000 in
theorem refWithout_any (l : List Rule) (k : Nat) (A : Option Addr) (c : Nat) (w : World) (hn : l.length ≤ 1000000) (hk : k < l.length) (hc : l.length ≤ c) (hcm : c ≤ maxLen) (hl : RAt w A l) :
    Calls Tryz.prog 34 #[.slice A l.length c, .int .i64 k] w (GivesL w (l.eraseIdx k)) := by
  obtain ⟨ad, rfl⟩ : ∃ ad, A = some ad := by
    obtain ⟨ad, e, _⟩ := hl k hk
    exact ⟨ad, e⟩
  have Hl := Lib.hid hl
  have hcm' : c ≤ 9223372036854775807 := by simpa [maxLen] using hcm
  clear hl hcm
  have Hl1 := Lib.hid (show (l.take k).length = k from by simp; omega)
  have Hl2 := Lib.hid (show (l.drop (k + 1)).length = l.length - (k + 1) from by simp)
  have hidx := Lib.hid (show l.take k ++ l.drop (k + 1) = l.eraseIdx k from (List.eraseIdx_eq_take_drop_succ l k).symm)
  have Hnil := Lib.hid (Own.nil encR 2 41 w w.heap.size)
  have hle := Lib.hid (show (l.eraseIdx k).length = l.length - 1 from by rw [List.length_eraseIdx]; simp [hk])
  by_cases hck : c = k + 1
  · subst hck
    rw [show l.length - (k + 1) = 0 from by omega] at Hl2
    rw [show l.length - 1 = k from by omega] at hle
    go_enter Tryz.func34, Tryz.ntmps34
    go_wp2_with (first | (at_builtin; refine wpl_appendN (l := l.take k) (m := l.drop (k + 1)) (base := w.heap.size) rfl encR_ok elemR _ _ rfl rfl Hown1.out (0) _ (k) Hl2.out rfl (by first | exact RAt.drop (Hl.out.gr Hk1.out) (k + 1) | (rw [List.drop_eq_nil_of_le (by omega)]; exact At.nil _ _ _ _)) (by rw [hidx.out]; exact hle.out) (by omega) Hk1.out.size ?_; intro A2 c2 w2 hown2 hc2 hm2 hk2 hb2; clear hb2; have Hown2 := Lib.hid hown2; have Hk2 := Lib.hid (Gr.kp Hk1.out hk2 (fun i h1 h2 => by have := (Own.lt Hown1.out h2).1; omega)); have Hc2 := Lib.hid hc2; have Hm2 := Lib.hid hm2; clear hown2 hk2 hc2 hm2) | (at_builtin; refine wpl_appendN (l := []) (m := l.take k) (v := .slice none 0 0) (base := w.heap.size) rfl encR_ok elemR _ _ rfl rfl Hnil.out k _ k Hl1.out rfl (Hl.out.take k) (by rw [List.nil_append]; exact Hl1.out) (by omega) (Nat.le_refl _) ?_; intro A1 c1 w1 hown1 hc1 hm1 hk1 hb1; rw [List.nil_append] at hown1; clear hc1 hm1 hb1; have Hown1 := Lib.hid hown1; have Hk1 := Lib.hid (Gr.kp (Kp.refl (fun _ => False) w) hk1 (fun i h1 h2 => by cases h2)); clear hown1 hk1))
    go_ret
    rw [hidx.out] at Hown2
    have e := hle.out
    exact ⟨A2, c2, by rw [e]; rfl, by rw [e]; exact Hc2.out, Hm2.out, Own.none0 Hown2.out, Own.at_ encR_ok (by rw [e]; exact Hown2.out), Hk2.out⟩
  · go_enter Tryz.func34, Tryz.ntmps34
    go_wp2_with (first | (at_builtin; refine wpl_appendN (l := l.take k) (m := l.drop (k + 1)) (base := w.heap.size) rfl encR_ok elemR _ _ rfl rfl Hown1.out (l.length - (k + 1)) _ (l.length - 1) Hl2.out rfl (by first | exact RAt.drop (Hl.out.gr Hk1.out) (k + 1) | (rw [List.drop_eq_nil_of_le (by omega)]; exact At.nil _ _ _ _)) (by rw [hidx.out]; exact hle.out) (by omega) Hk1.out.size ?_; intro A2 c2 w2 hown2 hc2 hm2 hk2 hb2; clear hb2; have Hown2 := Lib.hid hown2; have Hk2 := Lib.hid (Gr.kp Hk1.out hk2 (fun i h1 h2 => by have := (Own.lt Hown1.out h2).1; omega)); have Hc2 := Lib.hid hc2; have Hm2 := Lib.hid hm2; clear hown2 hk2 hc2 hm2) | (at_builtin; refine wpl_appendN (l := []) (m := l.take k) (v := .slice none 0 0) (base := w.heap.size) rfl encR_ok elemR _ _ rfl rfl Hnil.out k _ k Hl1.out rfl (Hl.out.take k) (by rw [List.nil_append]; exact Hl1.out) (by omega) (Nat.le_refl _) ?_; intro A1 c1 w1 hown1 hc1 hm1 hk1 hb1; rw [List.nil_append] at hown1; clear hc1 hm1 hb1; have Hown1 := Lib.hid hown1; have Hk1 := Lib.hid (Gr.kp (Kp.refl (fun _ => False) w) hk1 (fun i h1 h2 => by cases h2)); clear hown1 hk1))
    go_ret
    rw [hidx.out] at Hown2
    have e := hle.out
    exact ⟨A2, c2, by rw [e]; rfl, by rw [e]; exact Hc2.out, Hm2.out, Own.none0 Hown2.out, Own.at_ encR_ok (by rw [e]; exact Hown2.out), Hk2.out⟩
end Go.Proofs.YtffghamcggadcaaGreat
