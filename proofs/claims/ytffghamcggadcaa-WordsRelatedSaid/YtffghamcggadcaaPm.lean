/- Contract: the tidier puts a rule in. -/
import Derived.Test.YtffghamcggadcaaNx
namespace Go.Proofs.Ytffghamcggadcaa
open Go.RowKit Go.Maps
set_option linter.unusedVariables false
set_option linter.unusedSimpArgs false
attribute [local go_sem] B_size B_toList B_append B_extract B_get take_rest
/-- the library's own word about the machine lies at its place -/
def Glob (w : World) : Prop := ∃ m, w.cell? ⟨0, 0, none⟩ = some (.int .i64 m)
theorem Glob.kp {S : Nat → Prop} {w w' : World} (h : Glob w) (hk : Kp S w w') (hs : ¬ S 0) : Glob w' := by
  obtain ⟨m, hm⟩ := h
  exact ⟨m, hk.cell hm hs⟩
def occurs (t s : Str) : Bool := Lib.contains s t
theorem contains_any (s t : Str) (w : World) (hs : s.length ≤ 1000000000) (hg : Glob w) :
    Calls Try.prog 74 #[.string (B s), .string (B t)] w fun e w' => e = .returned (.bool (occurs t s)) ∧ w' = w := by
  obtain ⟨m, hm⟩ := hg
  refine (Any.strings_Contains Try.laysContains (B s) (B t) m w (by rw [B_size]; omega) hm).mono ?_
  intro e w' h
  exact h
def noOcc (t s : Str) : Prop := ∀ k, k < s.length → pre t (s.drop k) = false
theorem occurs_false {t s : Str} (h : occurs t s = false) : noOcc t s := by
  intro k hk
  rcases Lib.index_spec s t with ⟨h1, h2⟩ | ⟨i, h1, h2, h3, _⟩
  · exact h2 k (by omega)
  · unfold occurs Lib.contains at h
    rw [h1] at h
    simp at h
theorem first_none_iff {l : List Rule} : ∀ {s : Str}, first l s = none ↔ ∀ r ∈ l, noOcc r.1 s
  | [] => by simp [first, noOcc]
  | c :: s => by
    unfold first
    cases hf : l.find? fun r => pre r.1 (c :: s) with
    | some x =>
      simp only [reduceCtorEq, false_iff]
      intro h
      have h1 := h x (List.mem_of_find?_eq_some hf) 0 (by simp)
      have h2 := List.find?_some hf
      simp only [List.drop_zero] at h1
      rw [h1] at h2
      cases h2
    | none =>
      simp only [Option.map_eq_none_iff]
      rw [first_none_iff (s := s)]
      rw [List.find?_eq_none] at hf
      constructor
      · intro h r hr k hk
        rcases k with _ | k
        · simpa using hf r hr
        · simpa using h r hr k (by simpa using hk)
      · intro h r hr k hk
        simpa using h r hr (k + 1) (by simpa using hk)
theorem mem_eraseIdx_nodup {l : List Rule} (hnd : l.Nodup) {i : Nat} (hi : i < l.length) {y : Rule} : y ∈ l.eraseIdx i ↔ y ∈ l ∧ y ≠ l[i] := by
  rw [List.mem_eraseIdx_iff_getElem]
  constructor
  · rintro ⟨j, hj, h, rfl⟩
    exact ⟨List.getElem_mem _, fun e => h ((List.getElem_inj hnd).1 e)⟩
  · rintro ⟨hy, hne⟩
    obtain ⟨j, hj, rfl⟩ := List.getElem_of_mem hy
    exact ⟨j, hj, fun e => hne (by subst e; rfl), rfl⟩
theorem isNormal_iff {l : List Rule} (hnd : l.Nodup) {i : Nat} (hi : i < l.length) : isNormal l i l[i] = true ↔ ∀ y ∈ l, y ≠ l[i] → noOcc y.1 l[i].1 ∧ noOcc y.1 l[i].2 := by
  unfold isNormal
  rw [Bool.and_eq_true, Option.isNone_iff_eq_none, Option.isNone_iff_eq_none, first_none_iff, first_none_iff]
  constructor
  · rintro ⟨h1, h2⟩ y hy hne
    exact ⟨h1 y ((mem_eraseIdx_nodup hnd hi).2 ⟨hy, hne⟩), h2 y ((mem_eraseIdx_nodup hnd hi).2 ⟨hy, hne⟩)⟩
  · intro h
    refine ⟨fun y hy => ?_, fun y hy => ?_⟩
    · obtain ⟨a, b⟩ := (mem_eraseIdx_nodup hnd hi).1 hy
      exact (h y a b).1
    · obtain ⟨a, b⟩ := (mem_eraseIdx_nodup hnd hi).1 hy
      exact (h y a b).2
theorem Sorted.nodup {l : List Rule} (h : Sorted l) : l.Nodup := h.imp fun {a b} hab e => by subst e; exact bl_irrefl a hab
theorem Sorted.eraseIdx {l : List Rule} (h : Sorted l) (i : Nat) : Sorted (l.eraseIdx i) := h.sublist (List.eraseIdx_sublist l i)
theorem Known.erase {l : List Rule} {f : Rule → Bool} (h : Known l f) (hnd : l.Nodup) {i : Nat} (hi : i < l.length) (hf : f l[i] = false) : Known (l.eraseIdx i) f := by
  refine ⟨fun r hr => (mem_eraseIdx_nodup hnd hi).2 ⟨h.sub r hr, fun e => by subst e; rw [hf] at hr; cases hr⟩, fun j hj hfj => ?_⟩
  rw [isNormal_iff (hnd.sublist (List.eraseIdx_sublist l i)) hj]
  intro y hy hne
  have hm : (l.eraseIdx i)[j] ∈ l := (mem_eraseIdx_nodup hnd hi).1 (List.getElem_mem _) |>.1
  obtain ⟨k, hk, hkj⟩ := List.getElem_of_mem hm
  rw [← hkj] at hfj hne ⊢
  exact (isNormal_iff hnd hk).1 (h.nrm k hk hfj) y ((mem_eraseIdx_nodup hnd hi).1 hy).1 hne
theorem Known.put {l : List Rule} {f g : Rule → Bool} (h : Known l f) (hs : Sorted l) {r : Rule} (hr : r ∉ l) (hg : ∀ x, g x = true → f x = true ∧ occurs r.1 x.1 = false ∧ occurs r.1 x.2 = false) : Known (put r l) g := by
  refine ⟨fun x hx => put_mem.2 (.inr (h.sub x (hg x hx).1)), fun j hj hgj => ?_⟩
  obtain ⟨hf, ho1, ho2⟩ := hg _ hgj
  rw [isNormal_iff (put_sorted hs).nodup hj]
  intro y hy hne
  obtain ⟨k, hk, hkj⟩ := List.getElem_of_mem (h.sub _ hf)
  rcases put_mem.1 hy with rfl | hyl
  · exact ⟨occurs_false ho1, occurs_false ho2⟩
  · rw [← hkj] at hf hne ⊢
    exact (isNormal_iff hs.nodup hk).1 (h.nrm k hk hf) y hyl hne
theorem Known.put_in {l : List Rule} {f : Rule → Bool} (h : Known l f) {r : Rule} (he : Go.Proofs.Ytffghamcggadcaa.put r l = l) : Known (Go.Proofs.Ytffghamcggadcaa.put r l) f := by rw [he]; exact h
theorem ranges_kp {P : Program} {k : TypeId} {R : Value → Option (DW × List MemPlace)} {w w' : World} {S : Nat → Prop} {b r n : Nat} {D : DW} {left : Lit → Bool} {cnt : Nat} (h : w.ranges P k R b r n D left cnt) (hk : Kp S w w') (h1 : ¬ S b) (h2 : ¬ S r) : w'.ranges P k R b r n D left cnt := by
  have hr := h.lt
  have hb := h.owns.lt
  obtain ⟨es, clock, since, seen, c0, e1, e2, e3, e4, e5, rest⟩ := h
  exact ⟨es, clock, since, seen, c0, (hk.block b hb h1).trans e1, e2, e3, e4, (hk.block r hr h2).trans e5, rest⟩
/-- what was made behind w may be turned -/
theorem Kp.trans_new {S : Nat → Prop} {w w' w'' : World} {r : Nat} (h : Kp S w w') (k : Kp (· = r) w' w'') (hr : w.heap.size ≤ r) : Kp S w w'' :=
  ⟨k.os.trans h.os, k.tape.trans h.tape, k.output.trans h.output, Nat.le_trans h.size k.size, fun i hi hs => (k.block i (Nat.lt_of_lt_of_le hi h.size) (fun e => by omega)).trans (h.block i hi hs)⟩
theorem wp_delete {P : Program} {w w' : World} {o : Oper} {a : Act} {K : Act → World → Prop} {Q : Exit → Act → World → Prop} (s x : Operand) (t t' : TypeId)
    (ho : o.op = .call { callee := .builtin .delete, args := #[s, x], argTypes := #[t, t'] }) (v vx r : Value) (hs : a.eval s = v) (hx : a.eval x = vx) (hrun : (Builtin.delete_ #[t, t'] o.type #[v, vx]).run P w = .ok r w')
    (h : K (a.put o.dst r) w') : o.wp P a w K Q := by
  unfold Oper.wp execOp
  simp only [ho, resolve, invoke, builtin, Sem.run_bind, Sem.run_pure, Result.andThen_ok, List.map_toArray, List.map_cons, List.map_nil, hs, hx, hrun]
  exact h
set_option maxHeartbeats 4000000 in
set_option maxRecDepth 20000 in
theorem put_any (l : List Rule) (base tb mb n : Nat) (f : Rule → Bool) (v : Value) (r : Rule) (w : World) (hn : l.length ≤ 1000000) (hs : Sorted l) (hsm : Small r) (hsml : ∀ x ∈ l, Small x)
    (hown : OwnR w base v l) (hbl : Blk w tb 92 #[v, .map (some mb)]) (htm : tb ≠ mb) (hv1 : v.ownBlock ≠ some tb) (hv2 : v.ownBlock ≠ some mb) (hkm : KM w mb n f) (hkn : Known l f) (hg : Glob w) (hz : 0 < base) (htz : tb ≠ 0) (hmz : mb ≠ 0) (hbase : base ≤ w.heap.size) :
    Calls Try.prog 57 #[.pointer (some ⟨tb, 0, none⟩), valR r] w
      fun e w' => ∃ v' f', e = .returned (.tuple #[]) ∧ OwnR w' base v' (put r l) ∧ Blk w' tb 92 #[v', .map (some mb)] ∧ KM w' mb n f' ∧ Known (put r l) f' ∧ (v'.ownBlock = v.ownBlock ∨ ∃ k, v'.ownBlock = some k ∧ w.heap.size ≤ k) ∧ Kp (fun k => k = tb ∨ k = mb ∨ v.ownBlock = some k) w w' := by
  obtain ⟨A, c, rfl, hlc, hc⟩ := Own.slice hown
  have Hown := Lib.hid hown
  have Hkm := Lib.hid hkm
  have Hkn := Lib.hid hkn
  have Hg := Lib.hid hg
  have Hs := Lib.hid hs
  have ht := hbl.two
  have Hbl := Lib.hid hbl
  clear hown hkm hkn hg hs hbl
  unfold valR
  go_enter Try.func57, Try.ntmps57
  go_wp2_with fail
  have hb := Lib.hid (Blk.new w 24 #[.string (B r.1), .string (B r.2)])
  have HF : Hid (∀ w', Gr (w.alloc (.cells #[.string (B r.1), .string (B r.2)] 24)) w' → w'.cell? ⟨tb, 0, none⟩ = some (.slice A l.length c) ∧ w'.cell? ⟨w.heap.size, 0, none⟩ = some (.string (B r.1)) ∧ w'.cell? ⟨w.heap.size, 1, none⟩ = some (.string (B r.2))) :=
    fun w' hG => ⟨Gr.cell hG ((Hbl.out.alloc _).two.1), (hb.out.gr hG).two.1, (hb.out.gr hG).two.2.1⟩
  refine wp_region_S (fun _ => False) [(0, true), (1, true), (2, true), (3, true), (4, true), (5, false), (6, true), (7, true), (8, true), (9, true), (10, true)] (by kernel_rfl) (by kernel_rfl) ?_
  iterate 5 (
    refine rp_val (v := ?_) rfl (fun _ _ _ h => h) rfl (fun w' hG => ?_) ?_
    rotate_left
    · have hF := HF.out w' hG
      clear hG
      go_simp
      try with_reducible rfl
    simp only [Act.put, List.setIfInBounds_toArray, List.set_cons_zero, List.set_cons_succ])
  refine rp_loud rfl (by rfl) (fun w1 hG1 K hK => ?_)
  replace hK := Lib.hid hK
  go_simp
  refine (search_any l A c r w1 (by omega) Hs.out ((Own.at_ encR_ok Hown.out).gr (((Kp.refl _ _).alloc _).trans hG1))).mono ?_
  rintro e w2 ⟨i, hi, hpart, rfl, hg2⟩
  refine hK.out _ _ hg2 ?_
  clear hK
  iterate 5 (
    refine rp_val (v := ?_) rfl (fun _ _ _ h => h) rfl (fun w' hG => ?_) ?_
    rotate_left
    · clear hG
      go_simp
      try with_reducible rfl
    simp only [Act.put, List.setIfInBounds_toArray, List.set_cons_zero, List.set_cons_succ])
  refine rp_done fun w3 hG3 => ?_
  have hput := put_parted hi hpart
  have Hgr := Lib.hid (((((Kp.refl (fun _ => False) w).alloc (.cells #[.string (B r.1), .string (B r.2)] 24)).trans hG1).trans hg2).trans hG3)
  have hb3 := Lib.hid ((hb.out.gr hG1).gr hg2 |>.gr hG3)
  rcases hfnd : (l[i]? == some r) with _ | _
  · rw [hfnd] at hput
    rw [if_neg (by simp)] at hput
    have Hput := Lib.hid hput
    have Hpart := Lib.hid hpart
    have Hfnd := Lib.hid hfnd
    clear hput hpart hfnd
    go_wp2_with fail
    have ht3 := (Hbl.out.gr Hgr.out).two
    have hnown : ¬ (Value.slice A l.length c).ownBlock = some w.heap.size := fun h => by have := (Own.lt Hown.out h).2; omega
    have HF : Hid (∀ w', Kp (fun k => (Value.slice A l.length c).ownBlock = some k) w3 w' → w'.cell? ⟨tb, 0, none⟩ = some (.slice A l.length c) ∧ w'.cell? ⟨w.heap.size, 0, none⟩ = some (.string (B r.1)) ∧ w'.cell? ⟨w.heap.size, 1, none⟩ = some (.string (B r.2))) :=
      fun w' hG => ⟨hG.cell ht3.1 hv1, (hb3.out.kp hG hnown).two.1, (hb3.out.kp hG hnown).two.2.1⟩
    refine wp_region_L (fun k => (Value.slice A l.length c).ownBlock = some k) 11 [(0, true), (1, true), (2, true), (3, true), (4, true), (5, true), (6, true), (7, false), (8, false), (9, false), (10, false)] (by kernel_rfl) (by kernel_rfl) ?_
    iterate 7 (
      refine rp_val (v := ?_) rfl (fun _ _ _ h => h) rfl (fun w' hG => ?_) ?_
      rotate_left
      · have hF := HF.out w' hG
        clear hG
        go_simp
        try with_reducible rfl
      simp only [Act.put, List.setIfInBounds_toArray, List.set_cons_zero, List.set_cons_succ])
    refine rp_loud rfl (by rfl) (fun w4 hG4 K hK => ?_)
    replace hK := Lib.hid hK
    go_simp
    refine hK.out _ _ ((Kp.refl _ _).alloc _) ?_
    clear hK
    have hb5 := (Blk.new w4 24 #[.string (B r.1), .string (B r.2)])
    refine rp_loud rfl (by rfl) (fun w5 hG5 K hK => ?_)
    have hb5 := Blk.gr hb5 hG5
    have hown5 := (((Hown.out.gr Hgr.out).gr hG4).gr ((Kp.refl _ _).alloc (.cells #[.string (B r.1), .string (B r.2)] 24))).gr hG5
    have hgr5 := Lib.hid (((Hgr.out.trans hG4).alloc (.cells #[.string (B r.1), .string (B r.2)] 24)).trans hG5)
    replace hK := Lib.hid hK
    go_simp
    have hnb : (Value.slice A l.length c).ownBlock ≠ some w4.heap.size := fun h => by
      have h1 := (Own.lt Hown.out h).2
      have h2 := (Hgr.out.trans hG4).size
      omega
    refine (insert_any l base w4.heap.size i (.slice A l.length c) r w5 hn hi hown5 hb5 hnb (Nat.le_trans hbase hgr5.out.size)).mono ?_
    rintro e w6 ⟨v', rfl, hown6, hk6, hv6⟩
    obtain ⟨A', c', rfl, hlc', hc'⟩ := Own.slice hown6
    have hlen' : (l.take i ++ r :: l.drop i).length = l.length + 1 := by simp; omega
    rw [hlen'] at hown6 hv6 hlc'
    rw [hlen']
    replace hv6 := Lib.hid hv6
    refine hK.out _ _ hk6 ?_
    clear hK
    refine rp_loud rfl (by rfl) (fun w7 hG7 K hK => ?_)
    replace hK := Lib.hid hK
    go_simp
    refine hK.out _ _ (Kp.refl _ _) ?_
    clear hK
    refine rp_loud rfl (by rfl) (fun w8 hG8 K hK => ?_)
    replace hK := Lib.hid hK
    go_simp
    refine hK.out _ _ (Kp.refl _ _) ?_
    clear hK
    refine rp_last rfl rfl (fun w9 hG9 => ?_)
    have hk9 := Lib.hid ((((hgr5.out.mono (fun _ _ h => h.elim)).trans hk6).trans (hG7.mono (fun _ _ h => h.elim))).trans ((hG8.trans hG9).mono (fun _ _ h => h.elim)))
    have hown9 := Lib.hid ((hown6.gr hG7).gr (hG8.trans hG9))
    have ht9 := (Hbl.out.kp hk9.out hv1).two
    go_simp
    intro w10 hG10
    have hbl10 := Lib.hid (((Hbl.out.kp hk9.out hv1).set_ 0 (.slice A' (l.length + 1) c')).gr hG10)
    have hk10 := Lib.hid ((((hk9.out.mono (fun k _ h => Or.inr h)).trans ((Kp.set1 w9 tb 0 _).mono (fun k _ h => Or.inl h))).trans (hG10.mono (fun _ _ h => h.elim)) : Kp (fun k => k = tb ∨ (Value.slice A l.length c).ownBlock = some k) w w10))
    have ht10 := hbl10.out.two
    have hvt : (Value.slice A' (l.length + 1) c').ownBlock ≠ some tb := by
      rcases hv6.out with h | h
      · rw [h]; exact hv1
      · rw [h]; intro h'; injection h' with h'; have h1 := Hbl.out.lt; have h2 := hgr5.out.size; omega
    have hvm : (Value.slice A' (l.length + 1) c').ownBlock ≠ some mb := by
      rcases hv6.out with h | h
      · rw [h]; exact hv2
      · rw [h]; intro h'; injection h' with h'; have h1 := Hkm.out.lt; have h2 := hgr5.out.size; omega
    have hnr : r ∉ l := fun h => by
      obtain ⟨k, hk, rfl⟩ := List.getElem_of_mem h
      have h1 := Hpart.out
      have h2 : ¬ byLeft l[k] l[k] < 0 := bl_irrefl _
      have h3 : i ≤ k := by
        rcases Nat.lt_or_ge k i with h4 | h4
        · exact absurd (h1.1 k hk h4) h2
        · exact h4
      rcases Nat.lt_or_ge i k with h4 | h4
      · exact h1.2 i (by omega) (Nat.le_refl _) (List.pairwise_iff_getElem.1 Hs.out i k (by omega) hk h4)
      · obtain rfl : i = k := by omega
        have h5 := Hfnd.out
        simp [List.getElem?_eq_getElem hk] at h5
    obtain ⟨D, hD, hDr⟩ := Hkm.out.kp hk10.out (by rintro (h | h); exact htm h.symm; exact hv2 h)
    have HDr := Lib.hid hDr
    have hb11 := Lib.hid (((hb3.out.gr ((hG4.trans ((Kp.refl _ _).alloc _)).trans hG5)).kp hk6 hnown).gr (hG7.trans (hG8.trans hG9)))
    clear hDr
    go_wp2_with (refine wpList_range_own _ rfl _ _ rfl _ _ keyedR Try.underlying90 RB mb n D rfl hD ?_; intro w11 hrg hgn hsz; replace hrg := Lib.hid hrg; replace hgn := Lib.hid hgn)
    simp only [Act.put, List.setIfInBounds_toArray, List.set_cons_zero, List.set_cons_succ]
    have hkmlt := Hkm.out.lt
    have hbslt : w.heap.size < w10.heap.size := by
      have h1 := hb3.out.lt
      have h2 := (hG4.trans ((Kp.refl _ _).alloc (.cells #[.string (B r.1), .string (B r.2)] 24)) |>.trans hG5).size
      have h3 := hk6.size
      have h4 := (hG7.trans (hG8.trans hG9)).size
      have h5 := hG10.size
      simp only [World.size_setCell] at h5
      omega
    go_loopw [] (fun wr => ∃ (D' : DW) (f' : Rule → Bool) (left : Lit → Bool) (cnt : Nat), Hid (wr.ranges Try.prog 24 RB mb w10.heap.size n D' left cnt) ∧ Hid (Reads D' f') ∧ Hid (∀ x, f' x = true → f x = true) ∧ Hid (∀ x, Small x → f' x = true → (occurs r.1 x.1 = true ∨ occurs r.1 x.2 = true) → left (litR x) = true) ∧ Hid (Kp (fun k => k = mb) w10 wr)) (fun wr => wr.rangeLeft mb w10.heap.size)
    case atStart =>
      refine ⟨D, f, has D, size D, hrg, HDr, fun x h => h, fun x hx hf _ => ?_, (Gr.of_grown hgn.out).mono fun _ _ h => h.elim⟩
      rcases hh : has D (litR x) with _ | _
      · have h1 := HDr.out.1 x hx
        rw [atKey_of_not_has hh, hf] at h1
        cases h1
      · rfl
    case round =>
      obtain ⟨D', f', left, cnt, hrgs, hrd, hff, hto, hk⟩ := hrel
      have hb13 := Lib.hid (show Blk wr w.heap.size 24 #[.string (B r.1), .string (B r.2)] from (((hb11.out.far (show w.heap.size ≠ tb from fun h => by have := Hbl.out.lt; omega) _).gr hG10).kp hk.out (by omega)))
      have hgl := Lib.hid (show Glob wr from (((Hg.out.kp hk10.out (by rintro (h | h); exact htz h.symm; exact absurd (Own.lt Hown.out h).1 (by omega)))).kp hk.out (by omega)))
      have ht13 := Lib.hid (show wr.cell? ⟨tb, 1, none⟩ = some (.map (some mb)) from hk.out.cell ht10.2.1 htm)
      go_wp2_with (refine wpList_next_ranges _ rfl _ rfl _ keyedR RB (fun x : Rule => Value.agg #[.string (B x.1), .string (B x.2)]) Value.bool (fun key kl h => by obtain ⟨x, h, _⟩ := keyR_inv h; exact ⟨x, h⟩) (fun v y h => by obtain ⟨x, h, _⟩ := RB_bool h; exact ⟨x, h⟩) mb _ n D' left cnt rfl hrgs.out ?_ ?_; rotate_left; intro x cb kl y w12 cnt' hkey hlk hRv hat hrg' hlt hgr' hsz' hen; have hb14 := Lib.hid (hb13.out.kp (Kp.of_grown hgr') (by omega)); have hb15 : ∀ o, (w12.alloc o).cell? ⟨w.heap.size, 0, none⟩ = some (.string (B r.1)) := fun o => (hb14.out.alloc o).two.1; rotate_left; intro h0 hl0)
      · refine ⟨rfl, .tuple #[], by simp [results, Try.results57], .slice A' (l.length + 1) c', f', rfl, ?_, (hbl10.out.kp hk.out htm), ⟨D', hrgs.out.owns, hrd.out⟩, Hkn.out.put Hs.out hnr (fun x hx => ?_), ?_, ?_⟩
        · rw [Hput.out]
          exact ((hown9.out.kp (Kp.set1 w9 tb 0 _) (fun k hk' h => hvt (h ▸ hk'))).gr hG10).kp hk.out (fun k hk' h => hvm (h ▸ hk'))
        · have h1 := hff.out x hx
          have h2 := hsml x (Hkn.out.sub x h1)
          have h3 := hto.out x h2 hx
          refine ⟨h1, ?_, ?_⟩
          · rcases h : occurs r.1 x.1 with _ | _
            · rfl
            · rw [hl0] at h3; exact absurd (h3 (.inl h)) (by simp)
          · rcases h : occurs r.1 x.2 with _ | _
            · rfl
            · rw [hl0] at h3; exact absurd (h3 (.inr h)) (by simp)
        · rcases hv6.out with h | h
          · exact .inl h
          · exact .inr ⟨_, h, hgr5.out.size⟩
        · exact (hk10.out.mono (fun k _ h => h.elim .inl (fun h => .inr (.inr h)))).trans (hk.out.mono (fun k _ h => .inr (.inl h)))
      · obtain ⟨x', hsx, hx2⟩ := hrd.out.2 _ (has_true_of_atKey hat)
        obtain ⟨x'', hx3, hx4⟩ := keyR_inv hkey
        have hxx : x = x'' := by
          simp only [valR, Value.agg.injEq, Array.mk.injEq, List.cons.injEq, Value.string.injEq, and_true] at hx3
          refine Prod.ext ?_ ?_
          · rw [← B_toList x.1, hx3.1, B_toList]
          · rw [← B_toList x.2, hx3.2, B_toList]
        subst hxx
        have hsx1 : Small x := by
          have h1 := keyR x' hsx.1 hsx.2
          rw [← hx2] at h1
          have h2 := keyedR.inj hkey h1
          simp only [valR, Value.agg.injEq, Array.mk.injEq, List.cons.injEq, Value.string.injEq, and_true] at h2
          have : x = x' := by
            refine Prod.ext ?_ ?_
            · rw [← B_toList x.1, h2.1, B_toList]
            · rw [← B_toList x.2, h2.2, B_toList]
          rw [this]; exact hsx
        have hgl12 := Lib.hid ((hgl.out.kp (Kp.of_grown hgr') (by omega)).kp ((Kp.refl (fun _ => False) w12).alloc (.cells #[.string (B x.1), .string (B x.2)] 24)) (fun h => h))
        refine (contains_any x.1 r.1 _ hsx1.1 hgl12.out).mono ?_
        rintro e w13 ⟨rfl, rfl⟩
        rcases ho1 : occurs r.1 x.1 with _ | _
        · have Ho1 := Lib.hid ho1
          clear ho1
          go_wp2_with fail
          refine (contains_any x.2 r.1 _ hsx1.2 hgl12.out).mono ?_
          rintro e w14 ⟨rfl, rfl⟩
          rcases ho2 : occurs r.1 x.2 with _ | _
          · have Ho2 := Lib.hid ho2
            clear ho2
            go_wp2_with fail
            have hrgF := ranges_kp hrg' ((Kp.refl (fun _ => False) w12).alloc (.cells #[.string (B x.1), .string (B x.2)] 24)) (fun h => h) (fun h => h)
            refine ⟨⟨D', f', _, cnt', hrgF, hrd, hff, fun z hz hf ht => ?_, (hk.out.trans_new (Kp.of_grown hgr') (by omega)).alloc _⟩, ?_⟩
            · rw [hto.out z hz hf ht, Bool.true_and, Bool.not_eq_true']
              have hzx : z ≠ x := fun h => by
                subst h
                rcases ht with h | h
                · rw [Ho1.out] at h; cases h
                · rw [Ho2.out] at h; cases h
              rw [hx4]
              exact sameKey_ne (fun h => hzx (litR_inj hz hsx1 h))
            · rw [hrgF.left_eq, hrgs.out.left_eq]
              exact hlt
          · have Ho2 := Lib.hid ho2
            clear ho2
            go_wp2_with fail
            have hxb := Lib.hid (Blk.new w12 24 #[.string (B x.1), .string (B x.2)])
            have hw10 := hk.out.size
            have HF : Hid (∀ w', Kp (· = mb) (w12.alloc (.cells #[.string (B x.1), .string (B x.2)] 24)) w' → w'.cell? ⟨tb, 1, none⟩ = some (.map (some mb)) ∧ w'.cell? ⟨wr.heap.size, 0, none⟩ = some (.string (B x.1)) ∧ w'.cell? ⟨wr.heap.size, 1, none⟩ = some (.string (B x.2))) := by
              have htw : w12.cell? ⟨tb, 1, none⟩ = some (.map (some mb)) := (Kp.of_grown hgr').cell ht13.out (fun h => by have h1 := Hbl.out.lt; have h2 : tb = w10.heap.size := h; omega)
              rw [← hsz']
              exact fun w' hG => ⟨hG.cell (Gr.cell ((Kp.refl _ _).alloc _) htw) htm, (hxb.out.kp hG (by omega)).two.1, (hxb.out.kp hG (by omega)).two.2.1⟩
            refine wp_region_S (· = mb) [(0, true), (1, true), (2, true), (3, true), (4, true), (5, false)] (by kernel_rfl) (by kernel_rfl) ?_
            iterate 5 (
              refine rp_val (v := ?_) rfl (fun _ _ _ h => h) rfl (fun w' hG => ?_) ?_
              rotate_left
              · have hF := HF.out w' hG
                clear hG
                go_simp
                try with_reducible rfl
              simp only [Act.put, List.setIfInBounds_toArray, List.set_cons_zero, List.set_cons_succ])
            refine rp_loud rfl (by rfl) (fun w15 hG15 K hK => ?_)
            replace hK := Lib.hid hK
            obtain ⟨w16, cnt'', hrun, hrgd, hcd, hturn⟩ := (ranges_kp hrg' (((Kp.refl (fun _ => False) w12).alloc (.cells #[.string (B x.1), .string (B x.2)] 24)).trans hG15) (fun h => h) (fun h => h)).drop keyedR Try.underlying90 hkey 0
            refine wp_delete _ _ _ _ rfl _ _ _ rfl rfl hrun ?_
            refine hK.out _ _ (Kp.of_grown hturn.grown) ?_
            clear hK
            simp only [Act.put, List.setIfInBounds_toArray, List.set_cons_zero, List.set_cons_succ]
            refine rp_done fun w17 hG17 => ?_
            go_wp2_with fail
            have hrgF := ranges_kp hrgd hG17 (fun h => h) (fun h => h)
            refine ⟨⟨_, fun z => if z = x then false else f' z, _, cnt'', hrgF, ⟨fun z hz => ?_, fun kl' hkl' => ?_⟩, fun z hz => ?_, fun z hz hf ht => ?_, ?_⟩, ?_⟩
            · show _ = DataW.lit (Lit.bool (if z = x then false else f' z))
              rw [hx4]
              by_cases e : z = x
              · subst e
                rw [if_pos rfl, atKey_del_same]
              · rw [if_neg e, atKey_del_other (fun h => e (litR_inj hz hsx1 h))]
                exact hrd.out.1 z hz
            · by_cases e : kl' = kl
              · rw [e, has_del_same] at hkl'; cases hkl'
              · rw [has_del_other e] at hkl'
                exact hrd.out.2 kl' hkl'
            · have hz' : (if z = x then false else f' z) = true := hz
              by_cases e : z = x
              · rw [if_pos e] at hz'; cases hz'
              · rw [if_neg e] at hz'; exact hff.out z hz'
            · have hf' : (if z = x then false else f' z) = true := hf
              by_cases e : z = x
              · rw [if_pos e] at hf'; cases hf'
              · rw [if_neg e] at hf'
                have := hto.out z hz hf' ht
                rw [hx4]
                simp [this, sameKey_ne (fun h => e (litR_inj hz hsx1 h))]
            · exact ((((hk.out.trans_new (Kp.of_grown hgr') (by omega)).alloc _).trans (hG15.mono fun _ _ h => h.elim)).trans (Kp.of_grown hturn.grown)).trans (hG17.mono fun _ _ h => h.elim)
            · rw [hrgF.left_eq, hrgs.out.left_eq]
              omega
        · have Ho1 := Lib.hid ho1
          clear ho1
          go_wp2_with fail
          have hxb := Lib.hid (Blk.new w12 24 #[.string (B x.1), .string (B x.2)])
          have hw10 := hk.out.size
          have HF : Hid (∀ w', Kp (· = mb) (w12.alloc (.cells #[.string (B x.1), .string (B x.2)] 24)) w' → w'.cell? ⟨tb, 1, none⟩ = some (.map (some mb)) ∧ w'.cell? ⟨wr.heap.size, 0, none⟩ = some (.string (B x.1)) ∧ w'.cell? ⟨wr.heap.size, 1, none⟩ = some (.string (B x.2))) := by
            have htw : w12.cell? ⟨tb, 1, none⟩ = some (.map (some mb)) := (Kp.of_grown hgr').cell ht13.out (fun h => by have h1 := Hbl.out.lt; have h2 : tb = w10.heap.size := h; omega)
            rw [← hsz']
            exact fun w' hG => ⟨hG.cell (Gr.cell ((Kp.refl _ _).alloc _) htw) htm, (hxb.out.kp hG (by omega)).two.1, (hxb.out.kp hG (by omega)).two.2.1⟩
          refine wp_region_S (· = mb) [(0, true), (1, true), (2, true), (3, true), (4, true), (5, false)] (by kernel_rfl) (by kernel_rfl) ?_
          iterate 5 (
            refine rp_val (v := ?_) rfl (fun _ _ _ h => h) rfl (fun w' hG => ?_) ?_
            rotate_left
            · have hF := HF.out w' hG
              clear hG
              go_simp
              try with_reducible rfl
            simp only [Act.put, List.setIfInBounds_toArray, List.set_cons_zero, List.set_cons_succ])
          refine rp_loud rfl (by rfl) (fun w15 hG15 K hK => ?_)
          replace hK := Lib.hid hK
          obtain ⟨w16, cnt'', hrun, hrgd, hcd, hturn⟩ := (ranges_kp hrg' (((Kp.refl (fun _ => False) w12).alloc (.cells #[.string (B x.1), .string (B x.2)] 24)).trans hG15) (fun h => h) (fun h => h)).drop keyedR Try.underlying90 hkey 0
          refine wp_delete _ _ _ _ rfl _ _ _ rfl rfl hrun ?_
          refine hK.out _ _ (Kp.of_grown hturn.grown) ?_
          clear hK
          simp only [Act.put, List.setIfInBounds_toArray, List.set_cons_zero, List.set_cons_succ]
          refine rp_done fun w17 hG17 => ?_
          go_wp2_with fail
          have hrgF := ranges_kp hrgd hG17 (fun h => h) (fun h => h)
          refine ⟨⟨_, fun z => if z = x then false else f' z, _, cnt'', hrgF, ⟨fun z hz => ?_, fun kl' hkl' => ?_⟩, fun z hz => ?_, fun z hz hf ht => ?_, ?_⟩, ?_⟩
          · show _ = DataW.lit (Lit.bool (if z = x then false else f' z))
            rw [hx4]
            by_cases e : z = x
            · subst e
              rw [if_pos rfl, atKey_del_same]
            · rw [if_neg e, atKey_del_other (fun h => e (litR_inj hz hsx1 h))]
              exact hrd.out.1 z hz
          · by_cases e : kl' = kl
            · rw [e, has_del_same] at hkl'; cases hkl'
            · rw [has_del_other e] at hkl'
              exact hrd.out.2 kl' hkl'
          · have hz' : (if z = x then false else f' z) = true := hz
            by_cases e : z = x
            · rw [if_pos e] at hz'; cases hz'
            · rw [if_neg e] at hz'; exact hff.out z hz'
          · have hf' : (if z = x then false else f' z) = true := hf
            by_cases e : z = x
            · rw [if_pos e] at hf'; cases hf'
            · rw [if_neg e] at hf'
              have := hto.out z hz hf' ht
              rw [hx4]
              simp [this, sameKey_ne (fun h => e (litR_inj hz hsx1 h))]
          · exact ((((hk.out.trans_new (Kp.of_grown hgr') (by omega)).alloc _).trans (hG15.mono fun _ _ h => h.elim)).trans (Kp.of_grown hturn.grown)).trans (hG17.mono fun _ _ h => h.elim)
          · rw [hrgF.left_eq, hrgs.out.left_eq]
            omega
  · rw [hfnd] at hput
    rw [if_pos rfl] at hput
    have Hput := Lib.hid hput
    clear hput hpart hfnd
    go_wp2
    refine ⟨rfl, .tuple #[], by simp [results, Try.results57], _, f, rfl, ?_, Hbl.out.gr Hgr.out, Hkm.out.gr Hgr.out, Hkn.out.put_in Hput.out, .inl rfl, Hgr.out.mono fun _ _ h => h.elim⟩
    rw [Hput.out]
    exact Hown.out.gr Hgr.out
end Go.Proofs.Ytffghamcggadcaa
