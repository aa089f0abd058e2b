/- Contracts: round, complete. -/
import Derived.Test.YtffghamcggadcaaCl
namespace Go.Proofs.Ytffghamcggadcaa
open Go.RowKit Go.Maps
set_option linter.unusedVariables false
set_option linter.unusedSimpArgs false
attribute [local go_sem] B_size B_toList B_append B_extract B_get take_rest
def roundV (base : Nat) (l : List Rule) (e : Ending) (w' : World) : Prop := match fresh l (pairs l) with
  | none => e = .returned (.tuple #[.slice none 0 0, .bool false])
  | some more => ∃ v, e = .returned (.tuple #[v, .bool true]) ∧ OwnR w' base v (l ++ more)
theorem fresh_cons (l : List Rule) (p : Str × Str) (ps : List (Str × Str)) : fresh l (p :: ps) = match (normal l p.1).map (·.1), (normal l p.2).map (·.1) with
  | some a, some b => (match fresh l ps with
    | none => none
    | some out => some (if a = b then out else directed a b :: out))
  | _, _ => none := by
  conv => lhs; unfold fresh forms nf
  rcases normal l p.1 with _ | ⟨a, m⟩ <;> rcases normal l p.2 with _ | ⟨b, n⟩ <;> rfl
/-- the rules for the pairs before i are acc -/
def FreshTo (l : List Rule) (P : List (Str × Str)) (i : Nat) (acc : List Rule) : Prop := fresh l P = (fresh l (P.drop i)).map fun r => acc ++ r
set_option maxHeartbeats 4000000 in
set_option maxRecDepth 20000 in
theorem round_any (l : List Rule) (A : Option Addr) (c : Nat) (w : World) (hn : l.length ≤ 64) (ht : Tame 24 l) (hl : RAt w A l) :
    Calls Try.prog 42 #[.slice A l.length c] w fun e w' => roundV w.heap.size l e w' ∧ Gr w w' := by
  have Hl := Lib.hid hl
  have Ht := Lib.hid ht
  clear hl ht
  go_enter Try.func42, Try.ntmps42
  go_wp2_with fail
  refine (clone_any l A c w (by omega) Hl.out).mono ?_
  rintro e w0 ⟨v0, rfl, hown0, hg0⟩
  have Hown0 := Lib.hid hown0
  have Hg0 := Lib.hid hg0
  clear hown0 hg0
  go_wp2_with fail
  refine (pairs_any l A c w0 hn Ht.out (Hl.out.gr Hg0.out)).mono ?_
  rintro e w1 ⟨v, rfl, hown, hg1⟩
  obtain ⟨A1, c1, rfl, hlc1, hcm1⟩ := Own.slice hown
  have hlow : ∀ a, A1 = some a → w0.heap.size ≤ a.block ∧ a.block < w1.heap.size := fun a ha => Own.lt hown (k := a.block) (by subst ha; rfl)
  have Hat := Lib.hid (Own.at_ encR_ok hown)
  have Hg1 := Lib.hid hg1
  have Hps := Lib.hid (fun p (hp : p ∈ pairs l) => pairs_small Ht.out hp)
  have Hpl := pairsTo_len l l.length hn Ht.out
  rw [pairsTo_all] at Hpl
  have Hv := Lib.hid (show roundV w.heap.size l = fun e w' => match fresh l (pairs l) with
    | none => e = .returned (.tuple #[.slice none 0 0, .bool false])
    | some more => ∃ v, e = .returned (.tuple #[v, .bool true]) ∧ OwnR w' w.heap.size v (l ++ more) from rfl)
  have Hown1 := Lib.hid (Hown0.out.gr hg1)
  have hv0 : ∀ b, v0.ownBlock = some b → b < w0.heap.size := fun b h => (Own.lt Hown0.out h).2
  clear hown hg1
  generalize hP : pairs l = P at *
  clear hP
  go_wp2_with fail
  go_loopw [4, 15] (fun vo vi wr => ∃ (i : Nat) (u : Value) (acc : List Rule), u = vo ∧ i ≤ P.length ∧ vi = .int .i64 i ∧ Hid (OwnR wr w.heap.size vo (l ++ acc)) ∧ Hid (FreshTo l P i acc) ∧ acc.length ≤ i ∧ Hid (RAt wr A1 P) ∧ Hid (∀ a, A1 = some a → u.ownBlock ≠ some a.block ∧ a.block < wr.heap.size) ∧ Hid (Gr w wr)) (fun _ vi _ => P.length - (intOf vi).toNat)
  case atStart => 
    refine ⟨0, _, [], rfl, by omega, rfl, ?_, ?_, by simp, Hat, fun a ha => ?_, Hg0.out.trans Hg1.out⟩
    · rw [List.append_nil]; exact Hown1.out
    · show fresh l P = (fresh l (P.drop 0)).map fun r => [] ++ r
      rw [List.drop_zero]
      rcases fresh l P with _ | r <;> rfl
    · refine ⟨fun h => by have h1 := hv0 _ h; have h2 := (hlow a ha).1; omega, (hlow a ha).2⟩
  case round =>
    obtain ⟨i, u, acc, hu, hi, rfl, hown, hfr, hacc, hat, hdis, hg⟩ := hrel
    subst hu
    by_cases hlt : i < P.length
    · obtain ⟨ad, rfl, h0, h1⟩ := RAt.get hat.out hlt
      go_wp2_with fail
      obtain ⟨hp1, hp2⟩ := Hps.out P[i] (List.getElem_mem hlt)
      refine (forms_any l P[i].1 P[i].2 A c _ (by omega) (by omega) (by omega) Ht.out.dec ((Hl.out.gr hg.out).gr ((Kp.refl _ _).alloc _))).mono ?_
      rintro e w3 ⟨rfl, hg3⟩
      have hgs := Lib.hid ((((Kp.refl (fun _ => False) wr).alloc (.cells #[.string (B P[i].1), .string (B P[i].2)] 70))).trans hg3)
      have Hg3 := Lib.hid (hg.out.trans hgs.out)
      clear hg3
      have Hcc := Lib.hid (show fresh l (P.drop i) = (match (normal l P[i].1).map (·.1), (normal l P[i].2).map (·.1) with
          | some a, some b => (match fresh l (P.drop (i + 1)) with
            | none => none
            | some out => some (if a = b then out else directed a b :: out))
          | _, _ => none) from by rw [List.drop_eq_getElem_cons hlt]; exact fresh_cons _ _ _)
      rcases hn1 : normal l P[i].1 with _ | ⟨x1, m1⟩
      · skip
        have Hcl := Lib.hid (show fresh l P = none from by rw [hfr.out, Hcc.out]; simp only [hn1, Option.map_none, Option.map_some])
        simp only [hn1, Option.isSome_none, Option.isSome_some, Bool.false_and, Bool.and_false]
        clear hn1
        go_wp2_with fail
        go_ret2
        refine ⟨?_, Hg3.out⟩
        rw [Hv.out, Hcl.out]
        rfl
      · rcases hn2 : normal l P[i].2 with _ | ⟨x2, m2⟩
        · skip
          have Hcl := Lib.hid (show fresh l P = none from by rw [hfr.out, Hcc.out]; simp only [hn1, hn2, Option.map_none, Option.map_some])
          simp only [hn1, hn2, Option.isSome_none, Option.isSome_some, Bool.false_and, Bool.and_false]
          clear hn1 hn2
          go_wp2_with fail
          go_ret2
          refine ⟨?_, Hg3.out⟩
          rw [Hv.out, Hcl.out]
          rfl
        · have hx1 : x1.length ≤ P[i].1.length := normalN_le Ht.out.dec _ _ _ _ _ hn1
          have hx2 : x2.length ≤ P[i].2.length := normalN_le Ht.out.dec _ _ _ _ _ hn2
          have Hcl := Lib.hid (show fresh l (P.drop i) = (match fresh l (P.drop (i + 1)) with
            | none => none
            | some out => some (if x1 = x2 then out else directed x1 x2 :: out)) from by rw [Hcc.out]; simp only [hn1, hn2, Option.map_some])
          simp only [hn1, hn2, Option.isSome_some, Bool.and_self, nfS]
          clear hn1 hn2
          by_cases hx : x1 = x2
          · subst hx
            go_wp2_with fail
            refine ⟨⟨i + 1, _, acc, rfl, by omega, by go_num, hown.out.gr hgs.out, ?_, by omega, hat.out.gr hgs.out, fun a ha => ⟨(hdis.out a ha).1, Nat.lt_of_lt_of_le (hdis.out a ha).2 hgs.out.size⟩, Hg3⟩, by simp [intOf]; omega⟩
            have h := hfr.out
            unfold FreshTo at h ⊢
            rw [h, Hcl.out]
            rcases fresh l (P.drop (i + 1)) with _ | out
            · rfl
            · exact Lib.hid (by simp)
          · have hx' : (x1 == x2) = false := by simpa using hx
            have Hx := Lib.hid hx
            clear hx
            go_wp2_with fail
            refine (directed_any x1 x2 w3 (by omega) (by omega)).mono ?_
            rintro e w5 ⟨rfl, hg5⟩
            have hb6 := Blk.new w5 24 #[.string (B (directed x1 x2).1), .string (B (directed x1 x2).2)]
            have hgs6 := Lib.hid (((hgs.out.trans hg5).alloc (.cells #[.string (B (directed x1 x2).1), .string (B (directed x1 x2).2)] 24)))
            have Hb6 := Lib.hid (At.of_blk (l := [directed x1 x2]) encR_ok hb6)
            have hown6 := Lib.hid (hown.out.gr hgs6.out)
            have Hg6 := Lib.hid (hg.out.trans hgs6.out)
            clear hb6 hg5
            go_wp2_with (at_builtin; refine wpl_append (l := l ++ acc) (m := [directed x1 x2]) (v := u) (base := w.heap.size) rfl encR_ok elemR _ _ rfl rfl hown6.out 1 rfl Hb6.out (by simp only [List.length_append, List.length_cons, List.length_nil]; omega) Hg6.out.size ?_; intro v7 w7 hown7 hk7 hb7; replace hown7 := Lib.hid hown7; replace hk7 := Lib.hid hk7; replace hb7 := Lib.hid hb7)
            refine ⟨⟨i + 1, _, acc ++ [directed x1 x2], rfl, by omega, by go_num, ?_, ?_, by simp; omega, ?_, fun a ha => ⟨?_, ?_⟩, ?_⟩, by simp [intOf]; omega⟩
            · rw [← List.append_assoc]
              exact hown7.out
            · have h := hfr.out
              unfold FreshTo at h ⊢
              rw [h, Hcl.out]
              rcases fresh l (P.drop (i + 1)) with _ | out
              · rfl
              · exact Lib.hid (by simp [Hx.out])
            · exact (hat.out.gr hgs6.out).kp hk7.out (fun a ha h => (hdis.out a ha).1 h)
            · have hd := hdis.out a ha
              rcases hb7.out with h | h
              · rw [h]; exact hd.1
              · rw [h]; intro h'; injection h' with h'; have h1 := hgs6.out.size; omega
            · have h1 := (hdis.out a ha).2
              have h2 := hgs6.out.size
              have h3 := hk7.out.size
              omega
            · exact Gr.kp Hg6.out hk7.out (fun k h1 h2 => by have := (Own.lt hown6.out h2).1; omega)
    · go_wp2_with fail
      go_ret2
      refine ⟨?_, hg.out⟩
      have h := hfr.out
      unfold FreshTo at h
      rw [List.drop_eq_nil_of_le (by omega)] at h
      rw [Hv.out, h]
      exact ⟨_, rfl, by simpa [fresh] using hown.out⟩
end Go.Proofs.Ytffghamcggadcaa
