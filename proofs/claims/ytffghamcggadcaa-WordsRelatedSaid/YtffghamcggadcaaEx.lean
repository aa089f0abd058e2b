/- Contracts: Tidy, Normal, settle. -/
import Derived.Test.YtffghamcggadcaaTy
namespace Go.Proofs.Ytffghamcggadcaa
open Go.RowKit Go.Maps
set_option linter.unusedVariables false
set_option linter.unusedSimpArgs false
attribute [local go_sem] B_size B_toList B_append B_extract B_get take_rest
theorem isSystem_len {l : List Rule} (h : isSystem l = true) : l.length ≤ 64 := by
  unfold isSystem at h
  simp only [Bool.and_eq_true, decide_eq_true_eq] at h
  exact h.1
theorem gt_len {a b : Str} (h : gt a b = true) : b.length ≤ a.length := by
  have h1 := os_lt.1 (gt_iff.1 h)
  omega
theorem isSystem_tame {l : List Rule} (h : isSystem l = true) : Tame 24 l := by
  unfold isSystem at h
  simp only [Bool.and_eq_true, decide_eq_true_eq, List.all_eq_true] at h
  intro x hx
  have := h.2 x hx
  unfold isRule isEq isSide at this
  simp only [Bool.and_eq_true, decide_eq_true_eq] at this
  exact ⟨gt_len this.2, this.1.1.1⟩
def errV (n : Int) (base : Nat) (o : Option (List Rule)) (e : Ending) (w' : World) : Prop := match o with
  | none => e = .returned (.tuple #[.slice none 0 0, .int .i64 n])
  | some m => ∃ v, e = .returned (.tuple #[v, .int .i64 0]) ∧ OwnR w' base v m
def TidyV (base : Nat) (l : List Rule) (e : Ending) (w' : World) : Prop := if isSystem l = true then errV 5 base (tidy l) e w' else e = .returned (.tuple #[.slice none 0 0, .int .i64 2])
def Lens (l : List Rule) : Prop := ∀ r ∈ l, r.1.length ≤ 1000000000 ∧ r.2.length ≤ 1000000000
set_option maxHeartbeats 4000000 in
set_option maxRecDepth 20000 in
theorem Tidy_any (l : List Rule) (A : Option Addr) (c : Nat) (w : World) (hn : l.length ≤ 1000000000) (hL : Lens l) (hl : RAt w A l) (hz : 0 < w.heap.size) (hg : Glob w) :
    Calls Try.prog 18 #[.slice A l.length c] w fun e w' => TidyV w.heap.size l e w' ∧ Gr w w' := by
  have Hg := Lib.hid hg
  have Hl := Lib.hid hl
  have HL := Lib.hid hL
  clear hL hg hl
  go_enter Try.func18, Try.ntmps18
  go_wp2_with fail
  refine (isSystem_any l A c _ hn HL.out Hl.out).mono ?_
  rintro e w1 ⟨rfl, hg1⟩
  have Hg1 := Lib.hid hg1
  clear hg1
  rcases hs : isSystem l with _ | _
  · have Hs := Lib.hid hs
    clear hs
    go_wp2_with fail
    go_ret2
    refine ⟨?_, Hg1.out⟩
    unfold TidyV
    rw [if_neg (by simp [Hs.out])]
    rfl
  · have Hs := Lib.hid hs
    clear hs
    go_wp2_with fail
    have h64 := isSystem_len Hs.out
    refine (tidy_any l A c 24 w1 (by omega) (by omega) (isSystem_tame Hs.out) (Hl.out.gr Hg1.out) (by have := Hg1.out.size; omega) (Hg.out.kp Hg1.out (fun h => h))).mono ?_
    rintro e w2 ⟨ht, hg2⟩
    have Hg2 := Lib.hid hg2
    clear hg2
    have Ht := Lib.hid (show TidyV w.heap.size l = errV 5 w.heap.size (tidy l) from by funext e w'; unfold TidyV; rw [if_pos Hs.out])
    rcases htd : tidy l with _ | m
    · rw [htd] at ht Ht
      simp only [tidyV] at ht
      subst ht
      clear htd
      go_wp2_with fail
      go_ret2
      refine ⟨?_, Hg1.out.trans Hg2.out⟩
      rw [Ht.out]
      rfl
    · rw [htd] at ht Ht
      simp only [tidyV] at ht
      obtain ⟨v, rfl, hown⟩ := ht
      have Hown := Lib.hid hown
      clear htd hown
      go_wp2_with fail
      go_ret2
      refine ⟨?_, Hg1.out.trans Hg2.out⟩
      rw [Ht.out]
      exact ⟨v, rfl, Hown.out.base Hg1.out.size⟩
theorem forms_le {M : Nat} {l : List Rule} (hd : Dec l) {p : Str × Str} {a b : Str} (h : forms l p = some (a, b)) : a.length ≤ p.1.length ∧ b.length ≤ p.2.length := by
  unfold forms nf normal at h
  rcases h1 : normalN l 20000 p.1 0 with _ | ⟨x, m⟩
  · rw [h1] at h; simp at h
  · rcases h2 : normalN l 20000 p.2 0 with _ | ⟨y, n⟩
    · rw [h1, h2] at h; simp at h
    · rw [h1, h2] at h
      simp at h
      obtain ⟨rfl, rfl⟩ := h
      exact ⟨normalN_le hd _ _ _ _ _ h1, normalN_le hd _ _ _ _ _ h2⟩
theorem directed_len {M : Nat} {a b : Str} (ha : a.length ≤ M) (hb : b.length ≤ M) : (directed a b).2.length ≤ (directed a b).1.length ∧ (directed a b).1.length ≤ M := by
  obtain ⟨h1, h2⟩ := directed_dec a b
  refine ⟨h1, ?_⟩
  rcases h2 with h | h <;> rw [h] <;> assumption
theorem tidyN_keep {M : Nat} : ∀ (n : Nat) (l m : List Rule), Sorted l → Tame M l → tidyN n l = some m → Sorted m ∧ Tame M m ∧ m.length ≤ l.length ∧ wrong m = none
  | n, l, m, hs, ht, h => by
    rcases hw : wrong l with _ | ⟨k, r⟩
    · unfold tidyN at h
      rw [hw] at h
      simp at h
      subst h
      exact ⟨hs, ht, Nat.le_refl _, hw⟩
    · cases n with
      | zero => rw [tidyN_zero hw] at h; cases h
      | succ n =>
        rw [tidyN_succ hw] at h
        obtain ⟨hk, hkr, _⟩ := wrong_spec hw
        have hte : Tame M (l.eraseIdx k) := fun x hx => ht x (List.mem_of_mem_eraseIdx hx)
        have hel : (l.eraseIdx k).length + 1 = l.length := by rw [List.length_eraseIdx]; simp [hk]; omega
        rcases hf : forms (l.eraseIdx k) r with _ | ⟨a, b⟩
        · rw [hf] at h; cases h
        · rw [hf] at h
          simp only at h
          obtain ⟨h1, h2⟩ := forms_le (M := M) hte.dec hf
          have hr := ht r (hkr ▸ List.getElem_mem hk)
          by_cases hab : a = b
          · rw [if_pos hab] at h
            obtain ⟨g1, g2, g3, g4⟩ := tidyN_keep n _ m (hs.eraseIdx k) hte h
            exact ⟨g1, g2, by omega, g4⟩
          · rw [if_neg hab] at h
            obtain ⟨g1, g2, g3, g4⟩ := tidyN_keep n _ m (put_sorted (hs.eraseIdx k)) (fun x hx => by
              rcases put_mem.1 hx with rfl | hx
              · exact directed_len (M := M) (by have := hr.2; omega) (by have := hr.1; have := hr.2; omega)
              · exact hte x hx) h
            have := put_len (directed a b) (l.eraseIdx k)
            exact ⟨g1, g2, by omega, g4⟩
theorem tidy_keep {M : Nat} {l m : List Rule} (ht : Tame M l) (h : tidy l = some m) : Sorted m ∧ Tame M m ∧ m.length ≤ l.length ∧ wrong m = none := by
  obtain ⟨g1, g2, g3, g4⟩ := tidyN_keep 2000 (putAll l) m (putAll_sorted l) (fun x hx => ht x ((putAll_mem l x).1 hx)) h
  exact ⟨g1, g2, Nat.le_trans g3 (putAll_len l), g4⟩
theorem settle_eq {l : List Rule} (h : ¬ 400 < l.length) : settle l = match tidy l with
      | none => none
      | some x => if fits x then some x else none := by unfold settle; rw [if_neg h]; rfl
def settleV (base : Nat) (o : Option (List Rule)) (e : Ending) (w' : World) : Prop := match o with
  | none => ∃ v, e = .returned (.tuple #[v, .bool false])
  | some m => ∃ v, e = .returned (.tuple #[v, .bool true]) ∧ OwnR w' base v m
set_option maxHeartbeats 4000000 in
set_option maxRecDepth 20000 in
theorem settle_any (l : List Rule) (A : Option Addr) (c M : Nat) (w : World) (hn : l.length ≤ 1000000000) (hM : M ≤ 1000000) (ht : Tame M l) (hl : RAt w A l) (hz : 0 < w.heap.size) (hg : Glob w) :
    Calls Try.prog 41 #[.slice A l.length c] w fun e w' => settleV w.heap.size (settle l) e w' ∧ Gr w w' := by
  have Hg := Lib.hid hg
  have Hl := Lib.hid hl
  have Ht := Lib.hid ht
  clear ht hg hl
  by_cases h4 : 400 < l.length
  · go_enter Try.func41, Try.ntmps41
    go_wp2_with fail
    go_ret2
    refine ⟨?_, Kp.refl _ _⟩
    unfold settle
    rw [if_pos h4]
    exact ⟨_, rfl⟩
  · go_enter Try.func41, Try.ntmps41
    go_wp2_with fail
    refine (tidy_any l A c M _ (by omega) hM Ht.out Hl.out (by omega) Hg.out).mono ?_
    rintro e w2 ⟨ht, hg2⟩
    have Hg2 := Lib.hid hg2
    clear hg2
    have Hs := Lib.hid (settle_eq h4)
    rcases htd : tidy l with _ | m
    · rw [htd] at ht Hs
      simp only [tidyV] at ht
      subst ht
      clear htd
      go_wp2_with fail
      go_ret2
      refine ⟨?_, Hg2.out⟩
      rw [Hs.out]
      exact ⟨_, rfl⟩
    · obtain ⟨hm1, hm2, hm3, _⟩ := tidy_keep Ht.out htd
      have Hm2 := Lib.hid hm2
      clear hm1 hm2
      rw [htd] at ht Hs
      simp only [tidyV] at ht
      obtain ⟨v, rfl, hown⟩ := ht
      obtain ⟨A5, c5, rfl, hlc5, hcm5⟩ := Own.slice hown
      have Hown := Lib.hid hown
      clear htd hown
      go_wp2_with fail
      refine (fits_any m A5 c5 _ (by omega) Hm2.out.dec (fun x hx => by have h1 := (Hm2.out x hx).2; have h2 := (Hm2.out x hx).1; omega) (Own.at_ encR_ok Hown.out)).mono ?_
      rintro e w3 ⟨rfl, hg3⟩
      have Hg3 := Lib.hid hg3
      clear hg3
      rcases hft : fits m with _ | _
      all_goals
        have Hft := Lib.hid hft
        clear hft
        go_wp2_with fail
        go_ret2
        refine ⟨?_, Hg2.out.trans Hg3.out⟩
        rw [Hs.out]
      · simp only [Hft.out]
        exact ⟨_, rfl⟩
      · simp only [Hft.out]
        exact ⟨_, rfl, Hown.out.gr Hg3.out⟩
end Go.Proofs.Ytffghamcggadcaa
