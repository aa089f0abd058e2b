/- Contract: the tidier's next rule that is not normal by the others. -/
import Derived.Test.YtffghamcggadcaaTd
namespace Go.Proofs.Ytffghamcggadcaa
open Go.RowKit Go.Maps
set_option linter.unusedVariables false
set_option linter.unusedSimpArgs false
attribute [local go_sem] B_size B_toList B_append B_extract B_get take_rest
def wrongI (l : List Rule) : Int := match wrong l with
  | none => -1
  | some (k, _) => k
/-- what is known of a list holds: the rules are of the list, and normal by the others -/
structure Known (l : List Rule) (f : Rule → Bool) : Prop where
  sub : ∀ r, f r = true → r ∈ l
  nrm : ∀ i (h : i < l.length), f l[i] = true → isNormal l i l[i] = true
theorem wrong_drop (l : List Rule) : ∀ (k : Nat), k ≤ l.length → (∀ i (h : i < l.length), i < k → isNormal l i l[i] = true) → wrong l = wrongFrom l (l.drop k) k
  | 0, _, _ => rfl
  | k + 1, hk, h => by
    rw [wrong_drop l k (by omega) (fun i h1 h2 => h i h1 (by omega)), List.drop_eq_getElem_cons (by omega)]
    show (if isNormal l k l[k] = true then wrongFrom l (l.drop (k + 1)) (k + 1) else some (k, l[k])) = _
    rw [if_pos (h k (by omega) (by omega))]
theorem wrongI_none (l : List Rule) (h : ∀ i (h : i < l.length), isNormal l i l[i] = true) : wrongI l = -1 := by
  unfold wrongI
  rw [wrong_drop l l.length (Nat.le_refl _) (fun i h1 _ => h i h1), List.drop_length]
  rfl
theorem wrongI_some (l : List Rule) (k : Nat) (hk : k < l.length) (h : ∀ i (h : i < l.length), i < k → isNormal l i l[i] = true) (hw : isNormal l k l[k] = false) : wrongI l = k := by
  unfold wrongI
  rw [wrong_drop l k (by omega) h, List.drop_eq_getElem_cons hk]
  unfold wrongFrom
  rw [if_neg (by simp [hw])]
theorem wp_store {P : Program} {w w' : World} {o : Oper} {a : Act} {K : Act → World → Prop} {Q : Exit → Act → World → Prop} (m x v : Operand) (t : TypeId)
    (ho : o.op = Op.mapUpdate t m x v) (vm vx vv : Value) (hm : a.eval m = vm) (hx : a.eval x = vx) (hv : a.eval v = vv) (hrun : (Instr.mapUpdate t vm vx vv).run P w = .ok () w')
    (h : K (a.put o.dst undef) w') : o.wp P a w K Q := by
  unfold Oper.wp
  simp [execOp, ho, hm, hx, hv, hrun, Result.andThen]
  exact h
set_option maxHeartbeats 4000000 in
set_option maxRecDepth 20000 in
theorem next_any (l : List Rule) (ad : Option Addr) (c tb mb n : Nat) (f : Rule → Bool) (w : World) (hn : l.length ≤ 1000000) (hnn : n + l.length < 1000000000) (hc : l.length ≤ c) (hnd : l.Nodup) (hsm : ∀ r ∈ l, Small r)
    (hl : RAt w ad l) (ht0 : w.cell? ⟨tb, 0, none⟩ = some (.slice ad l.length c)) (ht1 : w.cell? ⟨tb, 1, none⟩ = some (.map (some mb))) (htm : tb ≠ mb) (hlm : ∀ a, ad = some a → a.block ≠ mb) (hkm : KM w mb n f) (hkn : Known l f) :
    Calls Try.prog 55 #[.pointer (some ⟨tb, 0, none⟩)] w
      fun e w' => ∃ f', e = .returned (.int .i64 (wrongI l)) ∧ KM w' mb (n + l.length) f' ∧ Known l f' ∧ Kp (· = mb) w w' := by
  have Hl := Lib.hid hl
  have Hsm := Lib.hid hsm
  have Hkm := Lib.hid hkm
  have Hkn := Lib.hid hkn
  clear hl hsm hkm hkn
  go_enter Try.func55, Try.ntmps55
  go_wp2_with fail
  go_loopw [17] (fun i wr => ∃ (j : Nat) (f' : Rule → Bool), j ≤ l.length ∧ i = .int .i64 j ∧ Hid (KM wr mb (n + j) f') ∧ Hid (Known l f') ∧ Hid (∀ i (h : i < l.length), i < j → isNormal l i l[i] = true) ∧ Hid (Kp (· = mb) w wr)) (fun i _ => l.length - (intOf i).toNat)
  case atStart => exact ⟨0, f, by omega, rfl, Hkm, Hkn, fun i h h' => absurd h' (by omega), Kp.refl _ _⟩
  case round =>
    obtain ⟨j, f', hj, rfl, hkm, hkn, hnr, hk⟩ := hrel
    by_cases hlt : j < l.length
    · obtain ⟨a, rfl, h0, h1⟩ := RAt.get (Hl.out.kp hk.out hlm) hlt
      obtain ⟨wb, hwb⟩ : ∃ wb, wb = wr.alloc (.cells #[.string (B l[j].1), .string (B l[j].2)] 24) := ⟨_, rfl⟩
      have hkb : Gr wr wb := hwb ▸ (Kp.refl _ _).alloc _
      have hb := Lib.hid (show Blk wb wr.heap.size 24 #[.string (B l[j].1), .string (B l[j].2)] from hwb ▸ Blk.new _ _ _)
      have ht0b : wb.cell? ⟨tb, 0, none⟩ = some (.slice (some a) l.length c) := Gr.cell hkb (hk.out.cell ht0 htm)
      have ht1b : wb.cell? ⟨tb, 1, none⟩ = some (.map (some mb)) := Gr.cell hkb (hk.out.cell ht1 htm)
      have HF : Hid (∀ w', Gr wb w' → w'.cell? ⟨tb, 1, none⟩ = some (.map (some mb)) ∧ w'.cell? ⟨wr.heap.size, 0, none⟩ = some (.string (B l[j].1)) ∧ w'.cell? ⟨wr.heap.size, 1, none⟩ = some (.string (B l[j].2))) :=
        fun w' hG => ⟨Gr.cell hG ht1b, (hb.out.gr hG).two.1, (hb.out.gr hG).two.2.1⟩
      have Hkmb := Lib.hid (hkm.out.gr hkb)
      have Hsmj := Lib.hid (Hsm.out l[j] (List.getElem_mem hlt))
      have Hlb := Lib.hid ((Hl.out.kp hk.out hlm).gr hkb)
      rcases hf : f' l[j] with _ | _
      · skip
        go_wp2_with fail
        rw [← hwb]
        refine wp_region_S (fun _ => False) [(0, true), (1, true), (2, true), (3, true), (4, true), (5, true)] (by kernel_rfl) (by kernel_rfl) ?_
        iterate 5 (
          refine rp_val (v := ?_) rfl (fun _ _ _ h => h) rfl (fun w' hG => ?_) ?_
          rotate_left
          · have hF := HF.out w' hG
            clear hG
            go_simp
            try with_reducible rfl
          simp only [Act.put, List.setIfInBounds_toArray, List.set_cons_zero, List.set_cons_succ])
        refine rp_val (v := .bool false) rfl (fun _ _ _ h => h) rfl (fun w' hG => ?_) ?_
        · have hlk := (Hkmb.out.gr hG).lookup l[j] Hsmj.out
          rw [hf] at hlk
          go_simp
          unfold valR at hlk
          rw [hlk]
          rfl
        simp only [Act.put, List.setIfInBounds_toArray, List.set_cons_zero, List.set_cons_succ]
        refine rp_done fun w1 hG1 => ?_
        have Hw1 := Lib.hid (hkb.trans hG1)
        go_wp2_with fail
        refine (without_any l (some a) c tb j w1 hn hlt hc (Hlb.out.gr hG1) (Gr.cell hG1 ht0b)).mono ?_
        rintro e w2 ⟨v, rfl, hown, hg2⟩
        obtain ⟨A2, c2, rfl, hlc2, hcm2⟩ := Own.slice hown
        have Hat := Lib.hid (Own.at_ encR_ok hown)
        have Hg2 := Lib.hid hg2
        have hol : (l.eraseIdx j).length ≤ l.length := List.length_eraseIdx_le _ _
        obtain ⟨b0, b1, _, _⟩ := (hb.out.gr (hG1.trans hg2)).two
        clear hown hg2
        go_wp2_with fail
        refine (first_any (l.eraseIdx j) l[j].1 A2 c2 w2 Hsmj.out.1 (by omega) Hat.out).mono ?_
        rintro e w3 ⟨rfl, hg3⟩
        have hb3 := hb.out.gr ((hG1.trans Hg2.out).trans hg3)
        have b0 : ∀ o, (w3.alloc o).cell? ⟨wr.heap.size, 0, none⟩ = some (.string (B l[j].1)) := fun o => (hb3.alloc o).two.1
        have b1 : ∀ o, (w3.alloc o).cell? ⟨wr.heap.size, 1, none⟩ = some (.string (B l[j].2)) := fun o => (hb3.alloc o).two.2.1
        have Hg3 := Lib.hid hg3
        clear hg3
        have Hn := Lib.hid (show isNormal l j l[j] = ((first (l.eraseIdx j) l[j].1).isNone && (first (l.eraseIdx j) l[j].2).isNone) from rfl)
        rcases hf1 : first (l.eraseIdx j) l[j].1 with _ | ⟨i1, r1⟩
        all_goals
          have Hf1 := Lib.hid hf1
          clear hf1
          simp only [firstV]
          go_wp2_with fail
          refine (first_any (l.eraseIdx j) l[j].2 A2 c2 _ Hsmj.out.2 (by omega) (Hat.out.gr (Hg3.out.alloc _))).mono ?_
          rintro e w4 ⟨rfl, hg4⟩
          have hb4 := (hb3.alloc _).gr hg4
          clear b0 b1
          have b0 : ∀ o, (w4.alloc o).cell? ⟨wr.heap.size, 0, none⟩ = some (.string (B l[j].1)) := fun o => (hb4.alloc o).two.1
          have b1 : ∀ o, (w4.alloc o).cell? ⟨wr.heap.size, 1, none⟩ = some (.string (B l[j].2)) := fun o => (hb4.alloc o).two.2.1
          have Hg4 := Lib.hid hg4
          clear hg4
          rcases hf2 : first (l.eraseIdx j) l[j].2 with _ | ⟨i2, r2⟩
          all_goals
            have Hf2 := Lib.hid hf2
            clear hf2
            simp only [firstV]
            have Hgr := Lib.hid (((((hkb.trans hG1).trans Hg2.out).trans Hg3.out).trans ((Kp.refl _ _).alloc (.cells _ _))).trans Hg4.out)
            go_wp2_with fail
            first
            | (go_ret
               refine ⟨f', ret_int (wrongI_some l j hlt hnr.out ?_).symm, ((hkm.out.gr Hgr.out).gr ((Kp.refl _ _).alloc _)).mono (by omega), hkn.out, hk.out.trans ((Hgr.out.alloc _).mono fun _ _ h => h.elim)⟩
               rw [Hn.out, Hf1.out, Hf2.out]
               rfl)
            | skip
        have hne : wr.heap.size ≠ mb := by have := hkm.out.lt; omega
        have HF : Hid (∀ w', Kp (· = mb) (w4.alloc (Obj.cells #[.string (B []), .string (B [])] 24)) w' → w'.cell? ⟨tb, 1, none⟩ = some (.map (some mb)) ∧ w'.cell? ⟨wr.heap.size, 0, none⟩ = some (.string (B l[j].1)) ∧ w'.cell? ⟨wr.heap.size, 1, none⟩ = some (.string (B l[j].2))) := by
          have h := Hgr.out.alloc (Obj.cells #[.string (B []), .string (B [])] 24)
          exact fun w' hG => ⟨hG.cell (Gr.cell h (hk.out.cell ht1 htm)) htm, hG.cell (b0 _) hne, hG.cell (b1 _) hne⟩
        refine wp_region_S (· = mb) [(0, true), (1, true), (2, true), (3, true), (4, true), (5, false)] (by kernel_rfl) (by kernel_rfl) ?_
        iterate 5 (
          refine rp_val (v := ?_) rfl (fun _ _ _ h => h) rfl (fun w' hG => ?_) ?_
          rotate_left
          · have hF := HF.out w' hG
            clear hG
            go_simp
            try with_reducible rfl
          simp only [Act.put, List.setIfInBounds_toArray, List.set_cons_zero, List.set_cons_succ])
        refine rp_loud rfl (by rfl) (fun w5 hG5 K hK => ?_)
        replace hK := Lib.hid hK
        have hgr5 := (Hgr.out.alloc (Obj.cells #[.string (B []), .string (B [])] 24)).trans hG5
        obtain ⟨w6, hrun, hkm6, hk6⟩ := (hkm.out.gr hgr5).update (by omega) l[j] Hsmj.out true
        refine wp_store _ _ _ _ rfl _ _ _ rfl rfl rfl hrun ?_
        refine hK.out _ _ hk6 ?_
        clear hK
        refine rp_done fun w7 hG7 => ?_
        go_wp2
        have hnj : isNormal l j l[j] = true := by rw [Hn.out, Hf1.out, Hf2.out]; rfl
        refine ⟨⟨j + 1, _, by omega, by go_num, hkm6.gr hG7, ⟨fun r hr => ?_, fun i hi1 hr => ?_⟩, fun i hi1 hi2 => ?_, ((hk.out.trans (hgr5.mono fun _ _ h => h.elim)).trans hk6).trans (hG7.mono fun _ _ h => h.elim)⟩, by simp [intOf]; omega⟩
        · by_cases e : r = l[j]
          · subst e; exact List.getElem_mem hlt
          · rw [if_neg e] at hr; exact hkn.out.sub r hr
        · by_cases e : l[i] = l[j]
          · obtain rfl : i = j := (List.getElem_inj hnd).1 e
            exact hnj
          · rw [if_neg e] at hr; exact hkn.out.nrm i hi1 hr
        · by_cases e : i = j
          · subst e; exact hnj
          · exact hnr.out i hi1 (by omega)
      · skip
        go_wp2_with fail
        rw [← hwb]
        refine wp_region_S (fun _ => False) [(0, true), (1, true), (2, true), (3, true), (4, true), (5, true)] (by kernel_rfl) (by kernel_rfl) ?_
        iterate 5 (
          refine rp_val (v := ?_) rfl (fun _ _ _ h => h) rfl (fun w' hG => ?_) ?_
          rotate_left
          · have hF := HF.out w' hG
            clear hG
            go_simp
            try with_reducible rfl
          simp only [Act.put, List.setIfInBounds_toArray, List.set_cons_zero, List.set_cons_succ])
        refine rp_val (v := .bool true) rfl (fun _ _ _ h => h) rfl (fun w' hG => ?_) ?_
        · have hlk := (Hkmb.out.gr hG).lookup l[j] Hsmj.out
          rw [hf] at hlk
          go_simp
          unfold valR at hlk
          rw [hlk]
          rfl
        simp only [Act.put, List.setIfInBounds_toArray, List.set_cons_zero, List.set_cons_succ]
        refine rp_done fun w1 hG1 => ?_
        have Hw1 := Lib.hid (hkb.trans hG1)
        go_wp2
        refine ⟨⟨j + 1, f', by omega, by go_num, (hkm.out.gr Hw1.out).mono (by omega), hkn.out, fun i hi1 hi2 => ?_, hk.out.trans (Hw1.out.mono fun _ _ h => h.elim)⟩, by simp [intOf]; omega⟩
        by_cases e : i = j
        · subst e; exact hkn.out.nrm i hi1 hf
        · exact hnr.out i hi1 (by omega)
    · obtain rfl : j = l.length := by omega
      go_wp2
      go_ret
      exact ⟨f', ret_int (wrongI_none l (fun i h => hnr.out i h h)).symm, hkm.out, hkn.out, hk.out⟩
end Go.Proofs.Ytffghamcggadcaa
