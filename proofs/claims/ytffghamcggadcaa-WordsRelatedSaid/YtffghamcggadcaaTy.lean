/- Contract: tidy. -/
import Derived.Test.YtffghamcggadcaaPm
namespace Go.Proofs.Ytffghamcggadcaa
open Go.RowKit Go.Maps
set_option linter.unusedVariables false
set_option linter.unusedSimpArgs false
attribute [local go_sem] B_size B_toList B_append B_extract B_get take_rest
theorem Own.cases {w : World} {base : Nat} {v : Value} {l : List Rule} (h : OwnR w base v l) : (v = .slice none 0 0 ∧ l = []) ∨ ∃ g c, v = .slice (some ⟨g, 0, none⟩) l.length c := by
  rcases h.2 with ⟨rfl, hl⟩ | ⟨g, cap, cur, rfl, _⟩
  · exact .inl ⟨rfl, List.eq_nil_of_length_eq_zero hl⟩
  · exact .inr ⟨g, cap, rfl⟩
theorem sort_own (l : List Rule) (base : Nat) (v : Value) (w : World) (hn : l.length ≤ 1000000000) (h : OwnR w base v l) :
    Calls Try.prog 52 #[v, .func (.func 53) #[] #[]] w
      fun e w' => e = .returned (.tuple #[]) ∧ ∃ m : List Rule, m.Perm l ∧ WSorted m ∧ OwnR w' base v m ∧ Kp (fun k => v.ownBlock = some k) w w' := by
  rcases Own.cases h with ⟨rfl, rfl⟩ | ⟨g, c, rfl⟩
  · refine (sort_none none 0 _ w).mono ?_
    rintro e w' ⟨rfl, rfl⟩
    exact ⟨rfl, [], List.Perm.refl _, List.Pairwise.nil, h, Kp.refl _ _⟩
  · refine (sort_any l base g l.length c w hn h).mono ?_
    rintro e w' ⟨rfl, m, h1, h2, h3, h4⟩
    exact ⟨rfl, m, h1, h2, h3, h4.mono fun k _ hk => by subst hk; rfl⟩
theorem compact_own (l : List Rule) (base : Nat) (v : Value) (w : World) (hn : l.length ≤ 1000000000) (h : OwnR w base v l) :
    Calls Try.prog 54 #[v] w
      fun e w' => ∃ v', e = .returned v' ∧ OwnR w' base v' (dedup l) ∧ v'.ownBlock = v.ownBlock ∧ Kp (fun k => v.ownBlock = some k) w w' := by
  rcases Own.cases h with ⟨rfl, rfl⟩ | ⟨g, c, rfl⟩
  · have H := Lib.hid h
    clear h
    go_enter Try.func54, Try.ntmps54
    go_wp2
    go_ret
    exact ⟨_, rfl, H.out, rfl, Kp.refl _ _⟩
  · refine (compact_any l base g c w hn h).mono ?_
    rintro e w' ⟨v', rfl, h1, h2, h3⟩
    exact ⟨v', rfl, h1, h2, h3.mono fun k _ hk => by subst hk; rfl⟩
theorem normalN_le {l : List Rule} (hd : Dec l) : ∀ (k : Nat) (s t : Str) (n m : Nat), normalN l k s n = some (t, m) → t.length ≤ s.length
  | k, s, t, n, m, h => by
    cases hf : first l s with
    | none =>
      rw [normalN_none hf] at h
      simp at h
      rw [h.1]
      exact Nat.le_refl _
    | some p =>
      obtain ⟨i, r⟩ := p
      obtain ⟨h1, h2, _⟩ := first_spec hf
      have h3 := replaced_le h2 (hd r h1)
      cases k with
      | zero => rw [normalN_stop hf] at h; cases h
      | succ k =>
        rw [normalN_go hf] at h
        exact Nat.le_trans (normalN_le hd k _ _ _ _ h) h3
theorem directed_dec (a b : Str) : (directed a b).2.length ≤ (directed a b).1.length ∧ ((directed a b = (a, b)) ∨ (directed a b = (b, a))) := by
  unfold directed
  split
  · rename_i h
    refine ⟨?_, .inr rfl⟩
    rcases os_lt.1 h with h | h <;> simp <;> omega
  · rename_i h
    refine ⟨?_, .inl rfl⟩
    rw [os_lt] at h
    simp
    omega
theorem put_len (r : Rule) : ∀ l : List Rule, (put r l).length ≤ l.length + 1
  | [] => by simp [put]
  | x :: l => by
    unfold put
    split
    · have := put_len r l
      simp
      omega
    · split <;> simp
theorem putAll_len (l : List Rule) : (putAll l).length ≤ l.length := by
  have : ∀ (l out : List Rule), (l.foldl (fun out r => put r out) out).length ≤ out.length + l.length := by
    intro l
    induction l with
    | nil => intro out; simp
    | cons x l ih =>
      intro out
      have h1 := ih (put x out)
      have h2 := put_len x out
      simp only [List.foldl_cons, List.length_cons]
      omega
  have h := this l []
  rw [List.length_nil, Nat.zero_add] at h
  exact h
theorem tidyN_zero {l : List Rule} {k : Nat} {r : Rule} (h : wrong l = some (k, r)) : tidyN 0 l = none := by unfold tidyN; rw [h]
theorem tidyN_succ {l : List Rule} {k : Nat} {r : Rule} (h : wrong l = some (k, r)) (n : Nat) : tidyN (n + 1) l = match forms (l.eraseIdx k) r with
    | none => none
    | some (a, b) => tidyN n (if a = b then l.eraseIdx k else put (directed a b) (l.eraseIdx k)) := by
  conv => lhs; unfold tidyN
  rw [h]
  rfl
theorem wrongFrom_spec (l : List Rule) : ∀ (m : List Rule) (j k : Nat) (r : Rule), m = l.drop j → wrongFrom l m j = some (k, r) → ∃ h : k < l.length, l[k] = r ∧ isNormal l k r = false
  | [], j, k, r, _, h => by cases h
  | x :: m, j, k, r, hm, h => by
    have hj : j < l.length := by
      rcases Nat.lt_or_ge j l.length with h1 | h1
      · exact h1
      · rw [List.drop_eq_nil_of_le h1] at hm; cases hm
    rw [List.drop_eq_getElem_cons hj] at hm
    injection hm with hx hm
    unfold wrongFrom at h
    cases hn : isNormal l j x with
    | true =>
      rw [hn, if_pos rfl] at h
      exact wrongFrom_spec l m (j + 1) k r hm h
    | false =>
      rw [hn] at h
      simp at h
      obtain ⟨rfl, rfl⟩ := h
      exact ⟨hj, hx.symm, hn⟩
theorem wrong_spec {l : List Rule} {k : Nat} {r : Rule} (h : wrong l = some (k, r)) : ∃ h : k < l.length, l[k] = r ∧ isNormal l k r = false := wrongFrom_spec l l 0 k r rfl h
/-- the rules of a list that is tidied: right sides are not longer than left ones, and these have at most M letters -/
def Tame (M : Nat) (l : List Rule) : Prop := ∀ x ∈ l, x.2.length ≤ x.1.length ∧ x.1.length ≤ M
theorem Tame.dec {M : Nat} {l : List Rule} (h : Tame M l) : Dec l := fun r hr => (h r hr).1
def tidyV (base : Nat) (o : Option (List Rule)) (e : Ending) (w' : World) : Prop := match o with
  | none => e = .returned (.tuple #[.slice none 0 0, .bool false])
  | some m => ∃ v, e = .returned (.tuple #[v, .bool true]) ∧ OwnR w' base v m
set_option maxHeartbeats 4000000 in
set_option maxRecDepth 20000 in
theorem tidy_any (l : List Rule) (A : Option Addr) (c M : Nat) (w : World) (hn : l.length ≤ 1000) (hM : M ≤ 1000000) (ht : Tame M l) (hl : RAt w A l) (hz : 0 < w.heap.size) (hg : Glob w) :
    Calls Try.prog 35 #[.slice A l.length c] w fun e w' => tidyV w.heap.size (tidy l) e w' ∧ Gr w w' := by
  have Ht := Lib.hid ht
  have Hg := Lib.hid hg
  have Hl := Lib.hid hl
  clear ht hg hl
  go_enter Try.func35, Try.ntmps35
  go_wp2_with fail
  refine (clone_any l A c w (by omega) Hl.out).mono ?_
  rintro e w1 ⟨v1, rfl, hown1, hg1⟩
  obtain ⟨A1, c1, rfl, hlc1, hcm1⟩ := Own.slice hown1
  have Hown1 := Lib.hid hown1
  have Hg1 := Lib.hid hg1
  clear hown1 hg1
  have hmk : (Instr.makeMap 90 none).run Try.prog w1 = .ok (.map (some w1.heap.size)) (w1.alloc (.map #[] 0)) := run_makeMap _ _
  go_wp2_with fail
  have hbl2 : Blk ((w1.alloc (.map #[] 0)).alloc (.cells #[.slice A1 l.length c1, .map (some w1.heap.size)] 92)) (w1.heap.size + 1) 92 #[.slice A1 l.length c1, .map (some w1.heap.size)] := by
    have := Blk.new (w1.alloc (.map #[] 0)) 92 #[.slice A1 l.length c1, .map (some w1.heap.size)]
    simpa using this
  have hkm2 : KM ((w1.alloc (.map #[] 0)).alloc (.cells #[.slice A1 l.length c1, .map (some w1.heap.size)] 92)) w1.heap.size 0 (fun _ => false) := (KM.made w1).gr ((Kp.refl _ _).alloc _)
  have hgr2 : Gr w1 ((w1.alloc (.map #[] 0)).alloc (.cells #[.slice A1 l.length c1, .map (some w1.heap.size)] 92)) := ((Kp.refl _ _).alloc _).alloc _
  have hown2 := Hown1.out.gr hgr2
  have hbm : w.heap.size ≤ w1.heap.size := Hg1.out.size
  have hv1m : ∀ k, (Value.slice A1 l.length c1).ownBlock = some k → w.heap.size ≤ k ∧ k < w1.heap.size := fun k hk => Own.lt Hown1.out hk
  have hgr02 := Hg1.out.trans hgr2
  clear hmk hgr2
  generalize hmb : w1.heap.size = mb at hbl2 hkm2 hbm hv1m hown2 hgr02 ⊢
  generalize (w1.alloc (.map #[] 0)).alloc (.cells #[.slice A1 l.length c1, .map (some mb)] 92) = w2 at *
  have Hgr02 := Lib.hid hgr02
  have Hv1m := Lib.hid hv1m
  have hv1t : ¬ (Value.slice A1 l.length c1).ownBlock = some (mb + 1) := fun h => by have := (hv1m _ h).2; omega
  have hv1m' : ¬ (Value.slice A1 l.length c1).ownBlock = some mb := fun h => by have := (hv1m _ h).2; omega
  clear hgr02 hv1m
  refine (sort_own l w.heap.size _ w2 (by omega) hown2).mono ?_
  rintro e w3 ⟨rfl, m, hperm, hws, hown3, hk3⟩
  have hml : m.length = l.length := hperm.length_eq
  have hbl3 := Lib.hid (hbl2.kp hk3 hv1t)
  have hkm3 := Lib.hid (hkm2.kp hk3 hv1m')
  have hd := Lib.hid (dedup_of_perm hperm hws)
  have Hown3 := Lib.hid hown3
  have Hk3 := Lib.hid hk3
  have Hperm := Lib.hid hperm
  clear hbl2 hkm2 hown2 hown3 hk3 hperm hws
  have ht3 := hbl3.out.two
  go_wp2_with fail
  refine (compact_own m w.heap.size _ w3 (by omega) Hown3.out).mono ?_
  rintro e w4 ⟨v4, rfl, hown4, hvb4, hk4⟩
  rw [hd.out] at hown4
  have hbl4 := Lib.hid (hbl3.out.kp hk4 hv1t)
  have hkm4 := Lib.hid (hkm3.out.kp hk4 hv1m')
  obtain ⟨A4, c4, rfl, hlc4, hcm4⟩ := Own.slice hown4
  have Hown4 := Lib.hid hown4
  have Hk4 := Lib.hid hk4
  clear hown4 hk4
  have ht4 := hbl4.out.two
  go_wp2_with fail
  have hbl5 := (hbl4.out.set_ 0 (.slice A4 (putAll l).length c4))
  have hgr5 : Gr w (w4.setCell ⟨mb + 1, 0, none⟩ (.slice A4 (putAll l).length c4)) := Gr.kp (Gr.kp (Gr.kp Hgr02.out Hk3.out (fun i h1 h2 => by have := (Hv1m.out _ h2).1; omega)) Hk4.out (fun i h1 h2 => by have := (Hv1m.out _ h2).1; omega)) (Kp.set1 _ _ _ _) (fun i h1 h2 => by omega)
  have hpl : (putAll l).length ≤ l.length := putAll_len l
  go_loopw [5] (fun vm wr => ∃ (mv : Nat) (cur : List Rule) (f : Rule → Bool) (v : Value), mv ≤ 2000 ∧ vm = .int .i64 mv ∧ Hid (OwnR wr w.heap.size v cur) ∧ Hid (Blk wr (mb + 1) 92 #[v, .map (some mb)]) ∧ Hid (KM wr mb (mv * 1000) f) ∧ Hid (Known cur f) ∧ Hid (Sorted cur ∧ Tame M cur) ∧ cur.length ≤ 1000 ∧ Hid (tidy l = tidyN (2000 - mv) cur) ∧ v.ownBlock ≠ some mb ∧ v.ownBlock ≠ some (mb + 1) ∧ Hid (Gr w wr)) (fun vm _ => 2001 - (intOf vm).toNat)
  case atStart =>
    refine ⟨0, putAll l, fun _ => false, .slice A4 (putAll l).length c4, by omega, rfl, Hown4.out.kp (Kp.set1 _ _ _ _) (fun k h1 h2 => ?_), hbl5, (hkm4.out.kp (Kp.set1 _ _ _ _) (fun h => by omega)), ⟨fun r h => (by cases h), fun i h h1 => (by cases h1)⟩, ⟨putAll_sorted l, fun x hx => Ht.out x ((putAll_mem l x).1 hx)⟩, by omega, rfl, by rw [hvb4]; exact hv1m', by rw [hvb4]; exact hv1t, hgr5⟩
    rw [hvb4] at h1
    have := (Hv1m.out _ h1).2
    omega
  case round =>
    obtain ⟨mv, cur, f, v, hmv, rfl, hown, hbl, hkm, hkn, hst, hcl, htd, hvm, hvt, hgr⟩ := hrel
    obtain ⟨A5, c5, rfl, hlc5, hcm5⟩ := Own.slice hown.out
    obtain ⟨hso, hta⟩ := hst.out
    have Hta := Lib.hid hta
    have Hso := Lib.hid hso
    clear hta hso
    have ht := hbl.out.two
    go_wp2_with fail
    refine (next_any cur A5 c5 (mb + 1) mb (mv * 1000) f wr (by omega) (by omega) hlc5 Hso.out.nodup (fun x hx => ⟨by have := (Hta.out x hx).2; omega, by have h1 := (Hta.out x hx).2; have h2 := (Hta.out x hx).1; omega⟩) (Own.at_ encR_ok hown.out) ht.1 ht.2.1 (by omega) (fun a ha hb => hvm (by subst ha; rw [← hb]; rfl)) hkm.out hkn.out).mono ?_
    rintro e w5 ⟨f', rfl, hkm5, hkn5, hk5⟩
    have hgr5 : Gr w w5 := Gr.kp hgr.out hk5 (fun i h1 h2 => by omega)
    have hbl5 := Lib.hid (hbl.out.kp hk5 (by omega))
    have hown5 := Lib.hid (hown.out.kp hk5 (fun b h1 h2 => hvm (by rw [h1]; exact congrArg some h2)))
    have Hkm5 := Lib.hid hkm5
    have Hkn5 := Lib.hid hkn5
    have ht5 := hbl5.out.two
    rcases hw : wrong cur with _ | ⟨k, r⟩
    · have hwi : wrongI cur = -1 := by unfold wrongI; rw [hw]
      have Htidy := Lib.hid (show tidy l = some cur from by rw [htd.out]; unfold tidyN; rw [hw])
      clear hw
      rw [hwi]
      go_wp2_with fail
      go_ret2
      rw [Htidy.out]
      exact ⟨⟨_, rfl, hown5.out⟩, hgr5⟩
    · obtain ⟨hkl, hkr, hkw⟩ := wrong_spec hw
      have hwi : wrongI cur = k := by unfold wrongI; rw [hw]
      have Hw := Lib.hid hw
      clear hw
      rw [hwi]
      by_cases hm2 : mv = 2000
      · have Htidy := Lib.hid (show tidy l = none from by rw [htd.out, hm2]; exact tidyN_zero Hw.out)
        subst hm2
        go_wp2_with fail
        go_ret2
        rw [Htidy.out]
        exact ⟨rfl, hgr5⟩
      · obtain ⟨a5, rfl, h0, h1⟩ := RAt.get (Own.at_ encR_ok hown5.out) hkl
        subst hkr
        have hb6 := Lib.hid (Blk.new w5 24 #[.string (B cur[k].1), .string (B cur[k].2)])
        have Htd := Lib.hid (show tidy l = (match forms (cur.eraseIdx k) cur[k] with
          | none => none
          | some (a, b) => tidyN (2000 - (mv + 1)) (if a = b then cur.eraseIdx k else put (directed a b) (cur.eraseIdx k))) from by rw [htd.out, show 2000 - mv = (2000 - (mv + 1)) + 1 from by omega]; exact tidyN_succ Hw.out _)
        go_wp2_with fail
        refine (without_any cur (some a5) c5 (mb + 1) k _ (by omega) hkl hlc5 ((Own.at_ encR_ok hown5.out).gr ((Kp.refl _ _).alloc _)) ((hbl5.out.alloc _).two.1)).mono ?_
        rintro e w7 ⟨v7, rfl, hown7, hg7⟩
        obtain ⟨A7, c7, rfl, hlc7, hcm7⟩ := Own.slice hown7
        have Hown7 := Lib.hid hown7
        have hb7 := Lib.hid (hb6.out.gr hg7)
        have hbl7 := Lib.hid ((hbl5.out.alloc _).gr hg7)
        have ht7 := hbl7.out.two
        have Hg7 := Lib.hid hg7
        clear hown7 hg7
        go_wp2_with fail
        have hs6 : (w5.alloc (.cells #[.string (B cur[k].1), .string (B cur[k].2)] 24)).heap.size = w5.heap.size + 1 := by simp
        have hv7 : ∀ b, (Value.slice A7 (cur.eraseIdx k).length c7).ownBlock = some b → w5.heap.size < b := fun b h => by have := (Own.lt Hown7.out h).1; omega
        have htb5 : mb + 1 < w5.heap.size := hbl5.out.lt
        have hbl8 := hbl7.out.set_ 0 (.slice A7 (cur.eraseIdx k).length c7)
        have hb8 := hb7.out.far (show w5.heap.size ≠ (⟨mb + 1, 0, none⟩ : Addr).block from fun h => by have h' : w5.heap.size = mb + 1 := h; omega) (.slice A7 (cur.eraseIdx k).length c7)
        have hown8 := Hown7.out.kp (Kp.set1 w7 (mb + 1) 0 (.slice A7 (cur.eraseIdx k).length c7)) (fun b h1 h2 => by have := hv7 b h1; have h3 : b = mb + 1 := h2; omega)
        have hkm8 := ((Hkm5.out.gr ((Kp.refl _ _).alloc (.cells #[.string (B cur[k].1), .string (B cur[k].2)] 24))).gr Hg7.out).kp (Kp.set1 w7 (mb + 1) 0 (.slice A7 (cur.eraseIdx k).length c7)) (fun h => by have h3 : mb = mb + 1 := h; omega)
        have hgr8 : Gr w (w7.setCell ⟨mb + 1, 0, none⟩ (.slice A7 (cur.eraseIdx k).length c7)) := Gr.kp ((hgr5.alloc _).trans Hg7.out) (Kp.set1 _ _ _ _) (fun i h1 h2 => by have h3 : i = mb + 1 := h2; omega)
        have hkn8 := Hkn5.out.erase Hso.out.nodup hkl (by
          rcases hf : f' cur[k] with _ | _
          · rfl
          · rw [Hkn5.out.nrm k hkl hf] at hkw; cases hkw)
        generalize w7.setCell ⟨mb + 1, 0, none⟩ (.slice A7 (cur.eraseIdx k).length c7) = w8 at *
        have Hbl8 := Lib.hid hbl8
        have Hb8 := Lib.hid hb8
        have Hown8 := Lib.hid hown8
        have Hkm8 := Lib.hid hkm8
        have Hgr8 := Lib.hid hgr8
        have Hkn8 := Lib.hid hkn8
        have Hv7 := Lib.hid hv7
        clear hbl8 hb8 hown8 hkm8 hgr8 hkn8 hv7 ht7
        have Hte := Lib.hid (show Tame M (cur.eraseIdx k) from fun x hx => Hta.out x (List.mem_of_mem_eraseIdx hx))
        have htk := Hta.out cur[k] (List.getElem_mem hkl)
        have hel : (cur.eraseIdx k).length ≤ cur.length := List.length_eraseIdx_le _ _
        have HF : Hid (∀ w', Gr w8 w' → w'.cell? ⟨mb + 1, 0, none⟩ = some (.slice A7 (cur.eraseIdx k).length c7) ∧ w'.cell? ⟨w5.heap.size, 0, none⟩ = some (.string (B cur[k].1)) ∧ w'.cell? ⟨w5.heap.size, 1, none⟩ = some (.string (B cur[k].2))) :=
          fun w' hG => ⟨(Hbl8.out.gr hG).two.1, (Hb8.out.gr hG).two.1, (Hb8.out.gr hG).two.2.1⟩
        refine wp_region_S (fun _ => False) [(0, true), (1, true), (2, true), (3, true), (4, true), (5, true), (6, true), (7, true), (8, true), (9, true), (10, true), (11, true), (12, true), (13, true), (14, true), (15, true), (16, true)] (by kernel_rfl) (by kernel_rfl) ?_
        iterate 9 (
          refine rp_val (v := ?_) rfl (fun _ _ _ h => h) rfl (fun w' hG => ?_) ?_
          rotate_left
          · have hF := HF.out w' hG
            clear hG
            go_simp
            try with_reducible rfl
          simp only [Act.put, List.setIfInBounds_toArray, List.set_cons_zero, List.set_cons_succ])
        refine rp_call (v := .tuple #[.string (B (nfS (normal (cur.eraseIdx k) cur[k].1))), .string (B (nfS (normal (cur.eraseIdx k) cur[k].2))), .bool ((normal (cur.eraseIdx k) cur[k].1).isSome && (normal (cur.eraseIdx k) cur[k].2).isSome)]) (f := 30) (args := #[.slice A7 (cur.eraseIdx k).length c7, .agg #[.string (B cur[k].1), .string (B cur[k].2)]]) rfl (fun _ _ _ h => h) rfl (fun w' => ?_) (fun w' hG => ?_) ?_
        · go_simp
        · exact forms_any _ _ _ _ _ _ (by omega) (by omega) (by omega) Hte.out.dec ((Own.at_ encR_ok Hown8.out).gr hG)
        simp only [Act.put, List.setIfInBounds_toArray, List.set_cons_zero, List.set_cons_succ]
        iterate 7 (
          refine rp_val (v := ?_) rfl (fun _ _ _ h => h) rfl (fun w' hG => ?_) ?_
          rotate_left
          · clear hG
            go_simp
            try with_reducible rfl
          simp only [Act.put, List.setIfInBounds_toArray, List.set_cons_zero, List.set_cons_succ])
        refine rp_done fun w9 hG9 => ?_
        have Hff := Lib.hid (show forms (cur.eraseIdx k) cur[k] = match (normal (cur.eraseIdx k) cur[k].1).map (·.1), (normal (cur.eraseIdx k) cur[k].2).map (·.1) with
          | some a, some b => some (a, b)
          | _, _ => none from rfl)
        rcases hn1 : normal (cur.eraseIdx k) cur[k].1 with _ | ⟨x1, m1⟩
        · have Htidy := Lib.hid (show tidy l = none from by rw [Htd.out, Hff.out]; simp only [hn1, Option.map_none, Option.map_some])
          simp only [hn1, Option.isSome_none, Option.isSome_some, Bool.false_and, Bool.and_false]
          have Hn1 := Lib.hid hn1
          clear hn1
          go_wp2_with fail
          go_ret2
          rw [Htidy.out]
          exact ⟨rfl, Hgr8.out.trans hG9⟩
        · rcases hn2 : normal (cur.eraseIdx k) cur[k].2 with _ | ⟨x2, m2⟩
          · have Htidy := Lib.hid (show tidy l = none from by rw [Htd.out, Hff.out]; simp only [hn1, hn2, Option.map_none, Option.map_some])
            simp only [hn1, hn2, Option.isSome_none, Option.isSome_some, Bool.false_and, Bool.and_false]
            have Hn1 := Lib.hid hn1
            clear hn1 hn2
            go_wp2_with fail
            go_ret2
            rw [Htidy.out]
            exact ⟨rfl, Hgr8.out.trans hG9⟩
          · have Htidy := Lib.hid (show tidy l = tidyN (2000 - (mv + 1)) (if x1 = x2 then cur.eraseIdx k else put (directed x1 x2) (cur.eraseIdx k)) from by rw [Htd.out, Hff.out]; simp only [hn1, hn2, Option.map_some])
            have hx1 : x1.length ≤ cur[k].1.length := normalN_le Hte.out.dec _ _ _ _ _ hn1
            have hx2 : x2.length ≤ cur[k].2.length := normalN_le Hte.out.dec _ _ _ _ _ hn2
            simp only [hn1, hn2, Option.isSome_some, Bool.and_self, nfS]
            clear hn1 hn2
            by_cases hx : x1 = x2
            · subst hx
              rw [if_pos rfl] at Htidy
              go_wp2_with fail
              refine ⟨⟨mv + 1, cur.eraseIdx k, f', .slice A7 (cur.eraseIdx k).length c7, by omega, by go_num, Hown8.out.gr hG9 |>.base (by have := hgr5.size; simp; omega), Hbl8.out.gr hG9, (Hkm8.out.gr hG9).mono (by omega), Hkn8.out, ⟨Sorted.eraseIdx Hso.out k, Hte.out⟩, by omega, Htidy, fun h => by have := Hv7.out _ h; omega, fun h => by have := Hv7.out _ h; omega, Hgr8.out.trans hG9⟩, by simp [intOf]; omega⟩
            · rw [if_neg hx] at Htidy
              have hx' : (x1 == x2) = false := by simpa using hx
              go_wp2_with fail
              refine (directed_any x1 x2 w9 (by omega) (by omega)).mono ?_
              rintro e w10 ⟨rfl, hg10⟩
              have Hg10 := Lib.hid hg10
              clear hg10
              go_wp2_with fail
              obtain ⟨hdd, hde⟩ := directed_dec x1 x2
              have hdl : (directed x1 x2).1.length ≤ M := by rcases hde with h | h <;> rw [h] <;> simp <;> omega
              have hso7 := Sorted.eraseIdx Hso.out k
              have hG10 := hG9.trans Hg10.out
              refine (put_any (cur.eraseIdx k) (w5.heap.size + 1) (mb + 1) mb ((mv + 1) * 1000) f' (.slice A7 (cur.eraseIdx k).length c7) (directed x1 x2) w10 (by omega) hso7 ⟨by omega, by omega⟩ (fun x hx => ⟨by have := (Hte.out x hx).2; omega, by have h1 := (Hte.out x hx).2; have h2 := (Hte.out x hx).1; omega⟩) (by have := Hown8.out.gr hG10; simpa using this) (Hbl8.out.gr hG10) (by omega) (fun h => by have := Hv7.out _ h; omega) (fun h => by have := Hv7.out _ h; omega) ((Hkm8.out.gr hG10).mono (by omega)) Hkn8.out (Hg.out.kp (Hgr8.out.trans hG10) (fun h => h)) (by omega) (by omega) (by omega) (by have := (Hb8.out.gr hG10).lt; omega)).mono ?_
              rintro e w11 ⟨v11, f11, rfl, hown11, hbl11, hkm11, hkn11, hv11, hk11⟩
              go_wp2_with fail
              have hvn : ∀ b, v11.ownBlock = some b → w5.heap.size < b := fun b h => by
                have := (Own.lt hown11 h).1
                omega
              refine ⟨⟨mv + 1, put (directed x1 x2) (cur.eraseIdx k), f11, v11, by omega, by go_num, hown11.base (by have := hgr5.size; omega), hbl11, hkm11, hkn11, ⟨put_sorted hso7, fun x hx => ?_⟩, ?_, Htidy, fun h => by have := hvn _ h; omega, fun h => by have := hvn _ h; omega, ?_⟩, by simp [intOf]; omega⟩
              · rcases put_mem.1 hx with rfl | h
                · exact ⟨hdd, hdl⟩
                · exact Hte.out x h
              · have h1 := put_len (directed x1 x2) (cur.eraseIdx k)
                have h2 : (cur.eraseIdx k).length + 1 = cur.length := by rw [List.length_eraseIdx]; simp [hkl]; omega
                omega
              · refine Gr.kp (Hgr8.out.trans hG10) hk11 (fun i h1 h2 => ?_)
                have h0 := hgr5.size
                rcases h2 with h | h | h
                · omega
                · omega
                · have := Hv7.out _ h; omega
end Go.Proofs.Ytffghamcggadcaa
