/- Contract: SortFunc by byLeft on a row of rules of the call's own. No conditions beyond the lengths. -/
import Derived.Test.YtffghamcggadcaaC5
import Derived.Test.YtffghamcggadcaaShelf
import Derived.Test.YtffghamcggadcaaPt
import Derived.Shelf.SlSortCmp.NoneTotal
namespace Go.Proofs.Ytffghamcggadcaa
open Go.RowKit Go.Sort
set_option linter.unusedVariables false
set_option linter.unusedSimpArgs false
attribute [local go_sem] B_size B_toList B_append B_extract B_get take_rest
/-- new blocks, and draws: nothing else -/
structure GrD (w w' : World) : Prop where
  gr : Gr w w'
  drawn : w.drawn ≤ w'.drawn
theorem GrD.refl (w : World) : GrD w w := ⟨Kp.refl _ _, Nat.le_refl _⟩
theorem GrD.trans {a b c : World} (h : GrD a b) (k : GrD b c) : GrD a c := ⟨h.gr.trans k.gr, Nat.le_trans h.drawn k.drawn⟩
theorem GrD.alloc {a b : World} (h : GrD a b) (o : Obj) : GrD a (b.alloc o) := ⟨h.gr.alloc o, h.drawn⟩
theorem GrD.grow {w w' : World} (h : GrD w w') : ∃ q os, w' = Sort.grow (w.drewN q) os := by
  refine ⟨w'.drawn - w.drawn, w'.heap.extract w.heap.size w'.heap.size, ?_⟩
  have h1 : w'.heap = w.heap ++ w'.heap.extract w.heap.size w'.heap.size := by
    apply Array.ext_getElem?
    intro i
    rcases Nat.lt_or_ge i w.heap.size with hi | hi
    · rw [Array.getElem?_append_left hi]
      exact h.gr.block i hi (fun h => h)
    · rw [Array.getElem?_append_right hi, Array.getElem?_extract]
      have hs := h.gr.size
      by_cases h2 : i < w'.heap.size
      · rw [if_pos (by omega)]; congr 1; omega
      · rw [if_neg (by omega), Array.getElem?_eq_none (by omega)]
  have h2 := h.drawn
  obtain ⟨heap, tape, drawn, os, output⟩ := w'
  simp only [Sort.grow, World.drewN] at *
  rw [World.mk.injEq]
  exact ⟨h1, h.gr.tape, by omega, h.gr.os, h.gr.output⟩
set_option maxHeartbeats 1000000 in
theorem order_D (a b : Str) (w : World) :
    Calls Try.prog 48 #[.string (B a), .string (B b)] w fun e w' => e = .returned (.int .i64 (orderS a b)) ∧ GrD w w' := by
  go_enter Try.func48, Try.ntmps48
  go_wp2_with (first
    | (go_at_call 66; refine (cmpInt_any _ _ _).mono ?_; rintro e w' ⟨rfl, rfl⟩)
    | (go_at_call 67; refine (compareS_any _ _ _).mono ?_; rintro e w' ⟨rfl, rfl⟩)
    | (go_at_call 65; refine (orInt_any (cmpN a.length b.length) (Lib.compareBytes a b) _ _ _ (by go_simp) (by go_simp)).mono ?_; rintro e w' ⟨rfl, rfl⟩))
  go_ret
  exact ⟨ret_int (by rfl), (GrD.refl _).alloc _⟩
set_option maxHeartbeats 1000000 in
theorem byLeft_D (a b : Rule) (w : World) :
    Calls Try.prog 53 #[.agg #[.string (B a.1), .string (B a.2)], .agg #[.string (B b.1), .string (B b.2)]] w
      fun e w' => e = .returned (.int .i64 (byLeft a b)) ∧ GrD w w' := by
  go_enter Try.func53, Try.ntmps53
  go_wp2
  refine wp_region_plan (G0 := GrD) (G := GrD) [(0, true), (1, true), (2, true), (3, true), (4, true), (5, true), (6, true), (7, true), (8, true), (9, true), (10, false), (11, false), (12, true)] (by kernel_rfl) (by kernel_rfl) GrD.refl (fun _ _ _ => GrD.trans) (fun _ _ h => h) (fun _ _ _ => GrD.trans) ⟨Kp.drawn _ _ _, Nat.le_succ _⟩ ?_
  have hb1 := ((Blk.new w 24 #[.string (B a.1), .string (B a.2)]).alloc (.cells #[.string (B b.1), .string (B b.2)] 24)).two
  have hb2 := (Blk.new (w.alloc (.cells #[.string (B a.1), .string (B a.2)] 24)) 24 #[.string (B b.1), .string (B b.2)]).two
  simp only [World.size_alloc] at hb2
  have HF : ∀ w', GrD ((w.alloc (.cells #[.string (B a.1), .string (B a.2)] 24)).alloc (.cells #[.string (B b.1), .string (B b.2)] 24)) w' → w'.cell? ⟨w.heap.size, 0, none⟩ = some (.string (B a.1)) ∧ w'.cell? ⟨w.heap.size, 1, none⟩ = some (.string (B a.2)) ∧ w'.cell? ⟨w.heap.size + 1, 0, none⟩ = some (.string (B b.1)) ∧ w'.cell? ⟨w.heap.size + 1, 1, none⟩ = some (.string (B b.2)) :=
    fun w' hG => ⟨Gr.cell hG.gr hb1.1, Gr.cell hG.gr hb1.2.1, Gr.cell hG.gr hb2.1, Gr.cell hG.gr hb2.2.1⟩
  clear hb1 hb2
  replace HF := Lib.hid HF
  iterate 4 (
    refine rp_val (v := ?_) rfl (fun _ _ _ h => h) rfl (fun w' hG => ?_) ?_
    rotate_left
    · have hF := HF.out w' hG
      clear hG
      go_simp
      try with_reducible rfl
    simp only [Act.put, List.setIfInBounds_toArray, List.set_cons_zero, List.set_cons_succ])
  refine rp_call (v := .int .i64 (orderS a.1 b.1)) (f := 48) (args := #[.string (B a.1), .string (B b.1)]) rfl (fun _ _ _ h => h) rfl (fun w' => ?_) (fun w' hG => ?_) ?_
  · go_simp
  · exact order_D _ _ _
  simp only [Act.put, List.setIfInBounds_toArray, List.set_cons_zero, List.set_cons_succ]
  iterate 4 (
    refine rp_val (v := ?_) rfl (fun _ _ _ h => h) rfl (fun w' hG => ?_) ?_
    rotate_left
    · have hF := HF.out w' hG
      clear hG
      go_simp
      try with_reducible rfl
    simp only [Act.put, List.setIfInBounds_toArray, List.set_cons_zero, List.set_cons_succ])
  refine rp_call (v := .int .i64 (orderS a.2 b.2)) (f := 48) (args := #[.string (B a.2), .string (B b.2)]) rfl (fun _ _ _ h => h) rfl (fun w' => ?_) (fun w' hG => ?_) ?_
  · go_simp
  · exact order_D _ _ _
  simp only [Act.put, List.setIfInBounds_toArray, List.set_cons_zero, List.set_cons_succ]
  refine rp_loud rfl (by rfl) (fun w1 hG1 K hK => ?_)
  replace hK := Lib.hid hK
  replace hG1 := Lib.hid hG1
  go_simp
  refine hK.out _ _ ((GrD.refl _).alloc _) ?_
  clear hK
  have hb3 := (Blk.new w1 3 #[.int .i64 (orderS a.1 b.1), .int .i64 (orderS a.2 b.2)])
  refine rp_loud rfl (by rfl) (fun w2 hG2 K hK => ?_)
  replace hK := Lib.hid hK
  have hb4 := (hb3.gr hG2.gr).two
  replace hG2 := Lib.hid hG2
  go_simp
  refine (orInt_any (orderS a.1 b.1) (orderS a.2 b.2) _ _ _ hb4.1 hb4.2.1).mono ?_
  rintro e w3 ⟨rfl, rfl⟩
  refine hK.out _ _ (GrD.refl _) ?_
  clear hK
  iterate 1 (
    refine rp_val (v := ?_) rfl (fun _ _ _ h => h) rfl (fun w' hG => ?_) ?_
    rotate_left
    · clear hG
      go_simp
      try with_reducible rfl
    simp only [Act.put, List.setIfInBounds_toArray, List.set_cons_zero, List.set_cons_succ])
  refine rp_done fun w4 hG4 => ?_
  replace hG4 := Lib.hid hG4
  go_wp2
  go_ret
  exact ⟨rfl, ((((((GrD.refl _).alloc _).alloc _).trans hG1.out).alloc _).trans hG2.out).trans hG4.out⟩
theorem swo_byLeft : Sort.SWO (ltOf byLeft) where
  irrefl x := by simp [ltOf, bl_self]
  trans x y z h1 h2 := by simp only [ltOf, decide_eq_true_eq] at *; exact bl_trans h1 h2
  ntrans x y z h1 h2 := by simp only [ltOf, decide_eq_false_iff_not] at *; exact bl_ntrans h1 h2
theorem flatK_flat (l : List Rule) : (flatK encR 2 l.toArray).toList = l.flatMap encR := by
  apply List.ext_getElem?
  intro j
  by_cases hj : j < l.length * 2
  · have hi : j / 2 < l.length := by omega
    have h1 := get_flatK encR 2 l.toArray j (by simpa using hj)
    have hs : j < (flatK encR 2 l.toArray).size := by simpa using hj
    rw [Array.getElem?_toList, Array.getElem?_eq_getElem hs]
    rw [getElem!_pos (flatK encR 2 l.toArray) j hs] at h1
    rw [h1]
    conv => rhs; rw [show j = j / 2 * 2 + j % 2 from by omega]
    rw [flat_get encR_ok l _ _ hi (Nat.mod_lt _ (by decide))]
    have e1 : l.toArray[j / 2]! = l[j / 2] := by simp [hi]
    rw [e1]
    have h2 : j % 2 < (encR l[j / 2]).length := by simp [encR]; omega
    rw [List.getElem?_eq_getElem h2, getElem!_pos (encR l[j / 2]) (j % 2) h2]
  · rw [List.getElem?_eq_none (by simp; omega), List.getElem?_eq_none (by rw [flat_len encR_ok]; omega)]
theorem holds_of_own {w : World} {base g n c : Nat} {l : List Rule} (h : OwnR w base (.slice (some ⟨g, 0, none⟩) n c) l) : HoldsK encR 2 w g 0 l.toArray := by
  intro j hj
  have hj' : j < l.length * 2 := by simpa using hj
  rcases h.2 with ⟨hv, _⟩ | ⟨g', cap, cur, hv, hb, hgg, h1, h2, h3, h4⟩
  · cases hv
  · injection hv with hA hn hc
    cases hA
    refine ⟨?_, by simp [World.frozen?, hgg]⟩
    rw [cell_of_row w g (0 + j) cur _ (0, 0) hgg, Nat.zero_add]
    have e1 : (cur.toList.take (l.length * 2))[j]? = (flatK encR 2 l.toArray).toList[j]? := by rw [h4, flatK_flat]
    rw [List.getElem?_take, if_pos hj', Array.getElem?_toList, Array.getElem?_toList] at e1
    rw [e1, Array.getElem?_eq_getElem hj, getElem!_pos (flatK encR 2 l.toArray) j hj]
    rfl
theorem own_put {w : World} {base g n c m : Nat} {os : Array Obj} {l l' : List Rule} (h : OwnR w base (.slice (some ⟨g, 0, none⟩) n c) l) (hl : l'.length = l.length) :
    OwnR (sortWorldK encR 2 w g 0 m l'.toArray os) base (.slice (some ⟨g, 0, none⟩) n c) l' ∧ Kp (· = g) w (sortWorldK encR 2 w g 0 m l'.toArray os) := by
  rcases h.2 with ⟨hv, _⟩ | ⟨g', cap, cur, hv, hb, hgg, h1, h2, h3, h4⟩
  · cases hv
  · injection hv with hA hn hc
    cases hA
    subst hn
    subst hc
    have hlt : g < w.heap.size := (Array.getElem?_eq_some_iff.1 hgg).1
    have hheap : (sortWorldK encR 2 w g 0 m l'.toArray os).heap = w.heap.modify g (Sort.onCells (Sort.putCells id 0 (flatK encR 2 l'.toArray))) ++ os := rfl
    refine ⟨⟨flat_len encR_ok l', .inr ⟨g, c, Sort.putCells id 0 (flatK encR 2 l'.toArray) cur, by rw [hl], hb, ?_, by rw [hl]; exact h1, h2, ?_, ?_⟩⟩, ⟨rfl, rfl, rfl, by rw [hheap]; simp, fun k hk hs => ?_⟩⟩
    · rw [hheap, Array.getElem?_append_left (by simpa using hlt)]
      simp [Array.getElem?_modify, hgg, Sort.onCells]
    · simpa [Sort.putCells] using h3
    · rw [← flatK_flat]
      apply List.ext_getElem?
      intro j
      by_cases hj : j < l'.length * 2
      · have hjc : j < cur.size := by rw [h3]; omega
        rw [List.getElem?_take, if_pos hj, Array.getElem?_toList, Array.getElem?_toList]
        simp only [Sort.putCells, Array.getElem?_mapIdx, Array.getElem?_eq_getElem hjc, Option.map_some]
        have hs : j < (flatK encR 2 l'.toArray).size := by simpa using hj
        rw [if_pos ⟨Nat.zero_le _, by simpa using hj⟩, Array.getElem?_eq_getElem hs, Nat.sub_zero, getElem!_pos (flatK encR 2 l'.toArray) j hs]
        rfl
      · rw [List.getElem?_take, if_neg hj, List.getElem?_eq_none (by simp; omega)]
    · rw [hheap, Array.getElem?_append_left (by simpa using hk)]
      simp [Array.getElem?_modify, show g ≠ k from fun e => hs e.symm]
theorem sorted_of {l : List Rule} {d : Array Rule} (hp : Sort.PermIn 0 l.length l.toArray d) (hs : Sort.SortedIn (ltOf byLeft) 0 l.length d) : ∃ m : List Rule, d = m.toArray ∧ m.Perm l ∧ WSorted m := by
  obtain ⟨h1, _, h2⟩ := hp
  have hsz : d.size = l.length := by simpa using h1
  refine ⟨d.toList, by simp, ?_, ?_⟩
  · have e1 : d.extract 0 l.length = d := by rw [← hsz]; simp
    have e2 : l.toArray.extract 0 l.length = l.toArray := by simp
    rw [e1, e2] at h2
    exact h2
  · unfold WSorted
    rw [List.pairwise_iff_getElem]
    intro i j hi hj hij
    have h := hs i j (Nat.zero_le _) hij (by simpa [hsz] using hj)
    simp only [ltOf, decide_eq_false_iff_not] at h
    have hi' : i < d.size := by simpa using hi
    have hj' : j < d.size := by simpa using hj
    rw [getElem!_pos d j hj', getElem!_pos d i hi'] at h
    simpa using h
theorem sort_any (l : List Rule) (base g n c : Nat) (w : World) (hn : l.length ≤ 1000000000) (h : OwnR w base (.slice (some ⟨g, 0, none⟩) n c) l) :
    Calls Try.prog 52 #[.slice (some ⟨g, 0, none⟩) n c, .func (.func 53) #[] #[]] w
      fun e w' => e = .returned (.tuple #[]) ∧ ∃ m : List Rule, m.Perm l ∧ WSorted m ∧ OwnR w' base (.slice (some ⟨g, 0, none⟩) n c) m ∧ Kp (· = g) w w' := by
  have hlen : n = l.length := by
    rcases h.2 with ⟨hv, _⟩ | ⟨g', cap, cur, hv, _⟩
    · cases hv
    · injection hv
  have hlt : g < w.heap.size := (Own.lt h rfl).2
  have hcmp : CmpLays Try.prog 53 #[] encR 2 byLeft g 0 l.toArray.size w := fun m os dk hs x y => by
    rw [Array.append_empty]
    exact (byLeft_D x y _).mono fun e w' ⟨he, hg⟩ => ⟨he, hg.grow⟩
  have hcon := AnyQ.slices_SortFunc Try.laysSort 2 Try.isAgg24 Try.sizeOf24 encR (fun _ => rfl) (fun x v hv => encR_ok.one x v hv) byLeft swo_byLeft 53 #[] g 0 c l.toArray w
    (enters' Try.func53 (by kernel_rfl) rfl) hcmp (holds_of_own h) hlt (by simp; omega)
  change Calls Try.prog 52 _ _ _ at hcon
  rw [hlen]
  refine hcon.mono ?_
  rintro e w' ⟨rfl, d, m, os, hp, hs, rfl⟩
  rw [List.size_toArray] at hp hs
  obtain ⟨k, rfl, hk1, hk2⟩ := sorted_of hp hs
  have := own_put (m := m) (os := os) h hk1.length_eq
  rw [hlen] at this
  exact ⟨rfl, k, hk1, hk2, this.1, this.2⟩
theorem sort_none (p : Option Addr) (c : Nat) (fv : Value) (w : World) :
    Calls Try.prog 52 #[.slice p 0 c, fv] w fun e w' => e = .returned (.tuple #[]) ∧ w' = w := by
  have hcon := AnyF.slices_SortFunc_none Try.laysSort p c fv w
  change Calls Try.prog 52 _ _ _ at hcon
  exact hcon
end Go.Proofs.Ytffghamcggadcaa
