/- Contract: Insert of one rule into a row of the call's own. -/
import Derived.Test.YtffghamcggadcaaBS
import Derived.Lib.Overlaps
namespace Go.Proofs.Ytffghamcggadcaa
open Go.RowKit
set_option linter.unusedVariables false
set_option linter.unusedSimpArgs false
attribute [local go_sem] B_size B_toList B_append B_extract B_get take_rest
theorem put_parted {r : Rule} : ∀ {l : List Rule} {i : Nat}, i ≤ l.length → Parted l r i i → put r l = if l[i]? == some r then l else l.take i ++ r :: l.drop i
  | [], i, hi, h => by
    obtain rfl : i = 0 := by simpa using hi
    simp [put]
  | x :: l, 0, hi, h => by
    have h0 := h.2 0 (by simp) (by omega)
    simp only [List.getElem_cons_zero] at h0
    unfold put
    rw [if_neg h0]
    by_cases hx : x = r <;> simp [hx]
  | x :: l, i + 1, hi, h => by
    have h0 := h.1 0 (by simp) (by omega)
    simp only [List.getElem_cons_zero] at h0
    unfold put
    rw [if_pos h0, put_parted (l := l) (i := i) (by simpa using hi) ⟨fun k hk h1 => h.1 (k + 1) (by simpa using hk) (by omega), fun k hk h1 => h.2 (k + 1) (by simpa using hk) (by omega)⟩]
    simp only [List.getElem?_cons_succ]
    split <;> simp
theorem run_copy_row {P : Program} {t t' e te : TypeId} {inf : TypeInfo} (ht : P.underlying t = some (.slice e)) (hi : P.info? e = some inf) {w : World} {g : Nat} {cur : Array Value} (hgg : w.heap[g]? = some (.cells cur te (0, 0)))
    (ty : TypeId) (k dLen dc : Nat) (A : Addr) (m sc q : Nat) (vals : List Value) (hq : Nat.min m dLen = q) (hv : vals.length = q * inf.size) (hr : ∀ j u, vals[j]? = some u → w.cell? (A.add j) = some u) (hone : ∀ v ∈ vals, v.oneCell' = true) (hfit : k + vals.length ≤ cur.size) :
    (Builtin.copy_ #[t, t'] ty #[.slice (some ⟨g, k, none⟩) dLen dc, .slice (some A) m sc]).run P w = .ok (.int .i64 q) (w.setRow g (cur.toList.take k ++ vals ++ cur.toList.drop (k + vals.length)).toArray) := by
  have h1 := run_firstCells_some (P := P) w inf.size q A m sc vals hv hr
  have h2 := run_storeCells_at P g k te vals 0 cur w hgg (by simpa using hfit) hone
  simp only [Nat.add_zero] at h2
  simp [Builtin.copy_, run_underlying ht, sizeOf, typeInfo, hi, Builtin.lenOf, hq, h1, h2, goInt]
theorem wp_copy {P : Program} {w w' : World} {o : Oper} {a : Act} {K : Act → World → Prop} {Q : Exit → Act → World → Prop} (s x : Operand) (t t' : TypeId)
    (ho : o.op = .call { callee := .builtin .copy, args := #[s, x], argTypes := #[t, t'] }) (v vx r : Value) (hs : a.eval s = v) (hx : a.eval x = vx) (hrun : (Builtin.copy_ #[t, t'] o.type #[v, vx]).run P w = .ok r w')
    (h : K (a.put o.dst r) w') : o.wp P a w K Q := by
  unfold Oper.wp execOp
  simp only [ho, resolve, invoke, builtin, Sem.run_bind, Sem.run_pure, Result.andThen_ok, List.map_toArray, List.map_cons, List.map_nil, hs, hx, hrun]
  exact h
theorem wpl_copy {P : Program} {w w' : World} {ops : Array Oper} {rest : List Oper} {o : Oper} {a : Act} {Q : Exit → Act → World → Prop} (hgd : o.guard = none) (s x : Operand) (t t' : TypeId)
    (ho : o.op = .call { callee := .builtin .copy, args := #[s, x], argTypes := #[t, t'] }) (v vx r : Value) (hs : a.eval s = v) (hx : a.eval x = vx) (hrun : (Builtin.copy_ #[t, t'] o.type #[v, vx]).run P w = .ok r w')
    (h : wpList P ops Q rest (a.put o.dst r) w') : wpList P ops Q (o :: rest) a w := by
  refine wpList_plain hgd fun K hK => ?_
  unfold Oper.wp execOp
  simp only [ho, resolve, invoke, builtin, Sem.run_bind, Sem.run_pure, Result.andThen_ok, List.map_toArray, List.map_cons, List.map_nil, hs, hx, hrun]
  exact hK _ _ h
set_option maxHeartbeats 1000000 in
set_option maxRecDepth 20000 in
theorem insert_any (l : List Rule) (base b i : Nat) (v : Value) (r : Rule) (w : World) (hn : l.length ≤ 1000000) (hi : i ≤ l.length) (h : OwnR w base v l) (hb : Blk w b 24 #[.string (B r.1), .string (B r.2)]) (hbv : v.ownBlock ≠ some b) (hbase : base ≤ w.heap.size) :
    Calls Try.prog 73 #[v, .int .i64 i, .slice (some ⟨b, 0, none⟩) 1 1] w
      fun e w' => ∃ v', e = .returned v' ∧ OwnR w' base v' (l.take i ++ r :: l.drop i) ∧ Kp (fun k => v.ownBlock = some k) w w' ∧ (v'.ownBlock = v.ownBlock ∨ v'.ownBlock = some w.heap.size) := by
  obtain ⟨A, c, rfl, hlc, hc⟩ := Own.slice h
  have Hown := Lib.hid h
  have Hb : Hid (RAt w (some ⟨b, 0, none⟩) [r]) := Lib.hid (At.of_blk encR_ok hb)
  have Hbase := hbase
  clear h
  by_cases hil : i = l.length
  · subst hil
    rcases A with _ | A
    · obtain rfl : l = [] := by
        rcases l with _ | ⟨x, l⟩
        · rfl
        · obtain ⟨ad, h, _⟩ := Own.at_ encR_ok Hown.out 0 (by simp); cases h
      obtain rfl : c = 0 := by
        rcases Hown.out.2 with ⟨hv, _⟩ | ⟨g', cap, cur, hv, _⟩
        · injection hv
        · cases hv
      go_enter Try.func73, Try.ntmps73
      go_wp2_with (at_builtin; refine wpl_append (l := ([] : List Rule)) (m := [r]) (v := .slice none 0 0) (base := base) rfl encR_ok elemR _ _ rfl rfl Hown.out 1 rfl (Hb.out) (by simp only [List.length_nil, List.length_cons]; omega) Hbase ?_; intro v1 w2 hown1 hk1 hb1; replace hown1 := Lib.hid hown1; replace hk1 := Lib.hid hk1; replace hb1 := Lib.hid hb1)
      go_ret
      exact ⟨_, rfl, by simpa using hown1.out, hk1.out, hb1.out⟩
    · obtain ⟨g, rfl⟩ : ∃ g, A = ⟨g, 0, none⟩ := by
        rcases Hown.out.2 with ⟨hv, hl0⟩ | ⟨g', cap, cur, hv, _⟩
        · cases hv
        · injection hv with hA; injection hA with hA; exact ⟨g', hA⟩
      by_cases hcl : c = l.length
      · subst hcl
        go_enter Try.func73, Try.ntmps73
        go_wp2_with (at_builtin; refine wpl_append (l := l) (m := [r]) (v := .slice (some ⟨g, 0, none⟩) l.length l.length) (base := base) rfl encR_ok elemR _ _ rfl rfl Hown.out 1 rfl (Hb.out) (by simp only [List.length_nil, List.length_cons]; omega) Hbase ?_; intro v1 w2 hown1 hk1 hb1; replace hown1 := Lib.hid hown1; replace hk1 := Lib.hid hk1; replace hb1 := Lib.hid hb1)
        go_ret
        exact ⟨_, rfl, by simpa using hown1.out, hk1.out, hb1.out⟩
      · have hcl2 : l.length < c := by omega
        go_enter Try.func73, Try.ntmps73
        go_wp2_with (at_builtin; refine wpl_append (l := l) (m := [r]) (v := .slice (some ⟨g, 0, none⟩) l.length c) (base := base) rfl encR_ok elemR _ _ rfl rfl Hown.out 1 rfl (Hb.out) (by simp only [List.length_nil, List.length_cons]; omega) Hbase ?_; intro v1 w2 hown1 hk1 hb1; replace hown1 := Lib.hid hown1; replace hk1 := Lib.hid hk1; replace hb1 := Lib.hid hb1)
        go_ret
        exact ⟨_, rfl, by simpa using hown1.out, hk1.out, hb1.out⟩
  · obtain ⟨g, rfl⟩ : ∃ g, A = some ⟨g, 0, none⟩ := by
      rcases Hown.out.2 with ⟨hv, hl0⟩ | ⟨g', cap, cur, hv, _⟩
      · exact absurd (List.eq_nil_of_length_eq_zero hl0) (fun h => by subst h; simp at hi hil; omega)
      · injection hv with hA; exact ⟨g', hA⟩
    obtain ⟨cur, hbg, hgg, hsz, hcur⟩ : ∃ cur : Array Value, base ≤ g ∧ w.heap[g]? = some (.cells cur 24 (0, 0)) ∧ cur.size = c * 2 ∧ cur.toList.take (l.length * 2) = l.flatMap encR := by
      rcases Hown.out.2 with ⟨hv, hl0⟩ | ⟨g', cap, cur, hv, hbg, hgg, h1, h2, h3, h4⟩
      · cases hv
      · injection hv with hA _ hcc
        cases hA
        subst hcc
        exact ⟨cur, hbg, hgg, h3, h4⟩
    have hP1 : (l.take i).flatMap encR = cur.toList.take (i * 2) := by
      have h5 := congrArg (List.take (i * 2)) hcur
      rw [List.take_take, Nat.min_eq_left (by omega)] at h5
      rw [h5]
      conv => rhs; rw [← List.take_append_drop i l, List.flatMap_append]
      rw [List.take_left' (by rw [flat_len encR_ok, List.length_take]; omega)]
    have hlP1 : ((l.take i).flatMap encR).length = i * 2 := by rw [flat_len encR_ok, List.length_take]; omega
    have hlP2 : ((l.drop i).flatMap encR).length = (l.length - i) * 2 := by rw [flat_len encR_ok, List.length_drop]
    have hall : cur.toList = (l.take i).flatMap encR ++ ((l.drop i).flatMap encR ++ cur.toList.drop (l.length * 2)) := by
      conv => lhs; rw [← List.take_append_drop (l.length * 2) cur.toList, hcur]
      rw [← List.append_assoc, ← List.flatMap_append, List.take_append_drop]
    have hgb : g ≠ b := fun h => hbv (by subst h; rfl)
    obtain ⟨inf, hinf, hsize⟩ : ∃ inf, Try.prog.info? 24 = some inf ∧ inf.size = 2 := by
      obtain ⟨inf, z, _, h1, _, h2, _⟩ := elemR
      exact ⟨inf, h1, h2⟩
    by_cases hcap : l.length + 1 ≤ c
    · have hov : ∀ lb cb, (callFunc 92 #[.slice (some ⟨b, 0, none⟩) 1 1, .slice (some ⟨g, (i + 1) * 2, none⟩) lb cb]).run Try.prog w = .ok (.value (.bool false)) w := fun lb cb => by
        rw [run_callFunc_extern Try.func92 (by kernel_rfl) (by kernel_rfl) (by kernel_rfl) (e := Extern.SlicesOverlaps.overlaps #[25, 25] #[4]) (by kernel_rfl)]
        rw [Lib.run_overlaps_apart w 25 4 24 Try.underlying25 2 (fun _ => by simp [Go.sizeOf, typeInfo, hinf, hsize]) ⟨b, 0, none⟩ ⟨g, (i + 1) * 2, none⟩ 1 1 lb cb (fun h => hgb h.symm) 24 24 2 (c * 2) (by unfold Blk at hb; simp [World.shape?, hb]) (by simp [World.shape?, hgg, hsz]) (by omega) (Blk.frozen hb 0) (Blk.frozen hb 2)]
        rfl
      go_enter Try.func73, Try.ntmps73
      go_wp2_with fail
      have hx1 : IntKind.i64.wrap ((i : Int) + 1) = ((i + 1 : Nat) : Int) := (IntWalk.i64_in _ (by omega)).trans (by omega)
      have hx2 : ((i + 1 : Nat) : Int) ≤ (l.length : Int) + 1 := by omega
      have hx0 : (0 : Int) ≤ (i : Int) + 1 := by omega
      have hx3 : ¬ c = i + 1 := by omega
      have hx4 : ¬ c = i := by omega
      have hx5 : (i : Int) ≤ (l.length : Int) + 1 := by omega
      refine wp_region_S (· = g) [(0, true), (1, true), (2, true), (3, true), (4, true), (5, true), (6, true), (7, true), (8, false)] (by kernel_rfl) (by kernel_rfl) ?_
      iterate 8 (
        refine rp_val (v := ?_) rfl (fun _ _ _ h => h) rfl (fun w' hG => ?_) ?_
        rotate_left
        · clear hG
          go_simp
          try with_reducible rfl
        simp only [Act.put, List.setIfInBounds_toArray, List.set_cons_zero, List.set_cons_succ])
      refine rp_loud rfl (by rfl) (fun w1 hG1 K hK => ?_)
      replace hK := Lib.hid hK
      have hgg1 : w1.heap[g]? = some (.cells cur 24 (0, 0)) := (Blk.gr hgg hG1)
      have hc1 := run_copy_row Try.underlying25 hinf hgg1 3 ((i + 1) * 2) (l.length - i) (c - (i + 1)) ⟨g, i * 2, none⟩ (l.length + 1 - i) (c - i) (l.length - i) ((l.drop i).flatMap encR) (by show min _ _ = _; omega) (by rw [hlP2, hsize]) (fun j u hu => ?_) (fun u hu => ?_) (by rw [hlP2, hsz]; omega) (t' := 25)
      rotate_left
      · rw [Addr.add_lit, cell_of_row w1 _ _ _ _ _ hgg1, ← Array.getElem?_toList, hall, List.getElem?_append_right (by omega), List.getElem?_append_left (by have := (List.getElem?_eq_some_iff.1 hu).1; omega), ← hu]
        congr 1
        omega
      · obtain ⟨x, _, hx⟩ := List.mem_flatMap.1 hu
        exact encR_ok.one x u hx
      refine wp_copy _ _ _ _ rfl _ _ _ rfl rfl hc1 ?_
      clear hc1
      have hg2 := setRow_heap w1 g cur (cur.toList.take ((i + 1) * 2) ++ (l.drop i).flatMap encR ++ cur.toList.drop ((i + 1) * 2 + ((l.drop i).flatMap encR).length)).toArray _ _ hgg1
      have hk2 : Kp (· = g) w1 (w1.setRow g (cur.toList.take ((i + 1) * 2) ++ (l.drop i).flatMap encR ++ cur.toList.drop ((i + 1) * 2 + ((l.drop i).flatMap encR).length)).toArray) := ⟨rfl, rfl, rfl, by simp, fun k _ hs => setRow_other w1 g k _ hs⟩
      refine hK.out _ _ hk2 ?_
      clear hK
      have e1 : (cur.toList.take ((i + 1) * 2) ++ (l.drop i).flatMap encR ++ cur.toList.drop ((i + 1) * 2 + ((l.drop i).flatMap encR).length)).toArray.toList.take (i * 2) = (l.take i).flatMap encR := by
        rw [List.append_assoc]
        simp only [List.toList_toArray]
        rw [List.take_append_of_le_length (by simp [hsz]; omega), List.take_take, Nat.min_eq_left (by omega), hP1]
      have e2 : (cur.toList.take ((i + 1) * 2) ++ (l.drop i).flatMap encR ++ cur.toList.drop ((i + 1) * 2 + ((l.drop i).flatMap encR).length)).toArray.toList.drop (i * 2 + 2) = (l.drop i).flatMap encR ++ cur.toList.drop ((l.length + 1) * 2) := by
        rw [List.append_assoc]
        simp only [List.toList_toArray]
        rw [List.drop_left' (by simp [hsz]; omega), hlP2]
        congr 2
        omega
      have e3 : (cur.toList.take ((i + 1) * 2) ++ (l.drop i).flatMap encR ++ cur.toList.drop ((i + 1) * 2 + ((l.drop i).flatMap encR).length)).toArray.size = c * 2 := by
        simp only [List.size_toArray, List.length_append, List.length_take, List.length_drop, Array.length_toList, hlP2, hsz]
        omega
      have E := Lib.hid (And.intro e1 (And.intro e2 e3))
      clear e1 e2 e3
      generalize (cur.toList.take ((i + 1) * 2) ++ (l.drop i).flatMap encR ++ cur.toList.drop ((i + 1) * 2 + ((l.drop i).flatMap encR).length)).toArray = cur2 at *
      generalize w1.setRow g cur2 = w2 at *
      refine rp_done fun w3 hG3 => ?_
      obtain ⟨e1, e2, e3⟩ := E.out
      have E1 := Lib.hid e1
      have E2 := Lib.hid e2
      clear e1 e2 E
      have hgg3 : w3.heap[g]? = some (.cells cur2 24 (0, 0)) := Blk.gr hg2 hG3
      have hb3 : Blk w3 b 24 #[.string (B r.1), .string (B r.2)] := ((hb.gr hG1).kp hk2 (fun h => hgb h.symm)).gr hG3
      have hc2 := run_copy_row Try.underlying25 hinf hgg3 3 (i * 2) (l.length + 1 - i) (c - i) ⟨b, 0, none⟩ 1 1 1 (encR r) (by show min _ _ = _; omega) (by rw [hsize]; rfl) (fun j u hu => ?_) (fun u hu => encR_ok.one r u hu) (by rw [encR_ok.len, e3]; omega) (t' := 25)
      rotate_left
      · rw [Addr.add_lit, cell_of_row w3 _ _ _ _ _ hb3, Nat.zero_add, ← Array.getElem?_toList, ← hu]
        rfl
      have hg4 := setRow_heap w3 g cur2 (cur2.toList.take (i * 2) ++ encR r ++ cur2.toList.drop (i * 2 + (encR r).length)).toArray _ _ hgg3
      have hk4 : Kp (· = g) w3 (w3.setRow g (cur2.toList.take (i * 2) ++ encR r ++ cur2.toList.drop (i * 2 + (encR r).length)).toArray) := ⟨rfl, rfl, rfl, by simp, fun k _ hs => setRow_other w3 g k _ hs⟩
      go_wp2_with (refine wpl_copy rfl _ _ _ _ rfl _ _ _ rfl rfl hc2 ?_)
      go_ret
      have hL : (l.take i ++ r :: l.drop i).length = l.length + 1 := by simp; omega
      rw [← List.append_assoc]
      refine ⟨_, rfl, ⟨flat_len encR_ok _, .inr ⟨g, c, _, by rw [hL]; rfl, hbg, hg4, by rw [hL]; exact hcap, hc, ?_, ?_⟩⟩, ?_, .inl rfl⟩
      · simp only [List.size_toArray, List.length_append, E1.out, encR_ok.len, List.length_drop, Array.length_toList, hlP1, e3]
        omega
      · rw [hL, encR_ok.len, E1.out, E2.out]
        simp only [List.toList_toArray]
        have : (l.take i ++ r :: l.drop i).flatMap encR = (l.take i).flatMap encR ++ encR r ++ (l.drop i).flatMap encR := by simp
        rw [this, ← List.append_assoc, List.take_left']
        simp only [List.length_append, hlP1, hlP2, encR_ok.len]
        omega
      · have := ((((Kp.refl _ _).trans hG1).mono (fun _ _ h => h.elim)).trans hk2).trans ((hG3.mono (fun _ _ h => h.elim)).trans hk4)
        exact this.mono (fun k _ h => by subst h; rfl)
    · have hli : (l.take i).length = i := by simp; omega
      have hA0 : RAt w (some ⟨g, 0, none⟩) (l.take i) := Own.at_ (c := c) encR_ok (by rw [hli]; exact Own.cut encR_ok Hown.out hi)
      obtain ⟨c', wa, hrun, howna, hga⟩ := run_append_zeros (P := Try.prog) (w := w) (l := l.take i) (A := some ⟨g, 0, none⟩) encR_ok elemR (z := .agg #[.string ⟨#[]⟩, .string ⟨#[]⟩]) (zr := (([], []) : Rule)) (by kernel_rfl) rfl 3 25 Try.underlying3 c (l.length + 1 - i) hA0 (by omega) (by omega) (by omega)
      rw [hli] at hrun howna
      rw [show i + (l.length + 1 - i) = l.length + 1 from by omega] at hrun howna
      have Hrun := Lib.hid hrun
      have hxx : ((l.length : Int) + 1 - i) = ((l.length + 1 - i : Nat) : Int) := by omega
      have hyy : IntKind.i64.wrap ((l.length : Int) + 1 - i) = ((l.length + 1 - i : Nat) : Int) := (IntWalk.i64_in _ (by omega)).trans hxx
      clear hrun
      obtain ⟨cur1, hg1, hsz1, hcur1, hlc1, hcm1⟩ : ∃ cur : Array Value, Blk wa w.heap.size 24 cur ∧ cur.size = c' * 2 ∧ cur.toList.take (i * 2) = (l.take i).flatMap encR ∧ l.length + 1 ≤ c' ∧ c' ≤ maxLen := by
        rcases howna.2 with ⟨hv, hl0⟩ | ⟨g', cap, cur, hv, hbg, hgg, h1, h2, h3, h4⟩
        · cases hv
        · have hll : (l.take i ++ List.replicate (l.length + 1 - i) (([], []) : Rule)).length = l.length + 1 := by simp; omega
          injection hv with hA _ hcc
          cases hA
          subst hcc
          rw [hll] at h1
          refine ⟨cur, hgg, h3, ?_, h1, h2⟩
          have h5 := congrArg (List.take (i * 2)) h4
          rw [List.take_take, Nat.min_eq_left (by rw [hll]; omega), List.flatMap_append, List.take_left' hlP1] at h5
          exact h5
      clear howna
      have hb1 : Blk wa b 24 #[.string (B r.1), .string (B r.2)] := hb.gr hga
      have hgga : Blk wa g 24 cur := Blk.gr (hgg : Blk w g _ _) hga
      have hgs : g < w.heap.size := Blk.lt hgg
      have hc2 := run_copy_row Try.underlying25 hinf hg1 3 (i * 2) (l.length + 1 - i) (c' - i) ⟨b, 0, none⟩ 1 1 1 (encR r) (by show min _ _ = _; omega) (by rw [hsize]; rfl) (fun j u hu => ?_) (fun u hu => encR_ok.one r u hu) (by rw [encR_ok.len, hsz1]; omega) (t' := 25)
      rotate_left
      · rw [Addr.add_lit, cell_of_row wa _ _ _ _ _ hb1, Nat.zero_add, ← Array.getElem?_toList, ← hu]
        rfl
      have hg4 := setRow_heap wa w.heap.size cur1 (cur1.toList.take (i * 2) ++ encR r ++ cur1.toList.drop (i * 2 + (encR r).length)).toArray _ _ hg1
      have hk4 : Kp (· = w.heap.size) wa (wa.setRow w.heap.size (cur1.toList.take (i * 2) ++ encR r ++ cur1.toList.drop (i * 2 + (encR r).length)).toArray) := ⟨rfl, rfl, rfl, by simp, fun k _ hs => setRow_other wa w.heap.size k _ hs⟩
      have E := Lib.hid (show (cur1.toList.take (i * 2) ++ encR r ++ cur1.toList.drop (i * 2 + (encR r).length)).toArray.toList.take ((i + 1) * 2) = (l.take i).flatMap encR ++ encR r ∧ (cur1.toList.take (i * 2) ++ encR r ++ cur1.toList.drop (i * 2 + (encR r).length)).toArray.size = c' * 2 from by
        rw [hcur1]
        constructor
        · simp only [List.toList_toArray]
          rw [List.take_left' (by rw [List.length_append, hlP1, encR_ok.len]; omega)]
        · simp only [List.size_toArray, List.length_append, hlP1, encR_ok.len, List.length_drop, Array.length_toList, hsz1]
          omega)
      generalize (cur1.toList.take (i * 2) ++ encR r ++ cur1.toList.drop (i * 2 + (encR r).length)).toArray = cur2 at *
      generalize wa.setRow w.heap.size cur2 = wb at *
      have hggb : Blk wb g 24 cur := hgga.kp hk4 (by omega)
      obtain ⟨e1, e2⟩ := E.out
      have E1 := Lib.hid e1
      have E2 := Lib.hid e2
      have Hall := Lib.hid hall
      clear e1 e2 E hall hcur hP1 hcur1
      have Hc2 := Lib.hid hc2
      clear hc2
      go_enter Try.func73, Try.ntmps73
      go_wp2_with (first
        | (at_builtin; refine Lib.wpList_append_run _ rfl _ _ _ _ rfl _ _ rfl rfl _ _ Hrun.out ?_)
        | refine wpl_copy rfl _ _ _ _ rfl _ _ _ rfl rfl Hc2.out ?_)
      have hx1 : IntKind.i64.wrap ((i : Int) + 1) = ((i + 1 : Nat) : Int) := (IntWalk.i64_in _ (by omega)).trans (by omega)
      have hx2 : ((i + 1 : Nat) : Int) ≤ (l.length : Int) + 1 := by omega
      have hx0 : (0 : Int) ≤ (i : Int) + 1 := by omega
      have hx3 : ¬ c' = i + 1 := by omega
      have hx4 : ¬ c' = i := by omega
      have hx6 : ¬ c = i := by omega
      have hx5 : (i : Int) ≤ (l.length : Int) := by omega
      simp only [Act.put, List.setIfInBounds_toArray, List.set_cons_zero, List.set_cons_succ]
      refine wp_region_S (· = w.heap.size) [(0, true), (1, true), (2, true), (3, true), (4, true), (5, true), (6, true), (7, true), (8, false)] (by kernel_rfl) (by kernel_rfl) ?_
      iterate 8 (
        refine rp_val (v := ?_) rfl (fun _ _ _ h => h) rfl (fun w' hG => ?_) ?_
        rotate_left
        · clear hG
          go_simp
          try with_reducible rfl
        simp only [Act.put, List.setIfInBounds_toArray, List.set_cons_zero, List.set_cons_succ])
      refine rp_loud rfl (by rfl) (fun w1 hG1 K hK => ?_)
      replace hK := Lib.hid hK
      have hgg1 := Blk.gr hg4 hG1
      have hggc := Blk.gr hggb hG1
      have hc3 := run_copy_row Try.underlying25 hinf hgg1 3 ((i + 1) * 2) (l.length - i) (c' - (i + 1)) ⟨g, i * 2, none⟩ (l.length - i) (c - i) (l.length - i) ((l.drop i).flatMap encR) (by show min _ _ = _; omega) (by rw [hlP2, hsize]) (fun j u hu => ?_) (fun u hu => ?_) (by rw [hlP2, E2.out]; omega) (t' := 25)
      rotate_left
      · rw [Addr.add_lit, cell_of_row w1 _ _ _ _ _ hggc, ← Array.getElem?_toList, Hall.out, List.getElem?_append_right (by omega), List.getElem?_append_left (by have := (List.getElem?_eq_some_iff.1 hu).1; omega), ← hu]
        congr 1
        omega
      · obtain ⟨x, _, hx⟩ := List.mem_flatMap.1 hu
        exact encR_ok.one x u hx
      have hg5 := setRow_heap w1 w.heap.size cur2 (cur2.toList.take ((i + 1) * 2) ++ (l.drop i).flatMap encR ++ cur2.toList.drop ((i + 1) * 2 + ((l.drop i).flatMap encR).length)).toArray _ _ hgg1
      have hk5 : Kp (· = w.heap.size) w1 (w1.setRow w.heap.size (cur2.toList.take ((i + 1) * 2) ++ (l.drop i).flatMap encR ++ cur2.toList.drop ((i + 1) * 2 + ((l.drop i).flatMap encR).length)).toArray) := ⟨rfl, rfl, rfl, by simp, fun k _ hs => setRow_other w1 w.heap.size k _ hs⟩
      refine wp_copy _ _ _ _ rfl _ _ _ rfl rfl hc3 ?_
      refine hK.out _ _ hk5 ?_
      clear hK hc3
      refine rp_done fun w3 hG3 => ?_
      go_wp2
      go_ret
      have hL : (l.take i ++ r :: l.drop i).length = l.length + 1 := by simp; omega
      refine ⟨_, rfl, ⟨flat_len encR_ok _, .inr ⟨w.heap.size, c', _, by rw [hL]; rfl, hbase, Blk.gr hg5 hG3, by rw [hL]; exact hlc1, hcm1, ?_, ?_⟩⟩, ?_, .inr rfl⟩
      · simp only [List.size_toArray, List.length_append, E1.out, encR_ok.len, List.length_drop, Array.length_toList, hlP1, E2.out, hlP2]
        omega
      · rw [hL, E1.out]
        simp only [List.toList_toArray]
        have : (l.take i ++ r :: l.drop i).flatMap encR = (l.take i).flatMap encR ++ encR r ++ (l.drop i).flatMap encR := by simp
        rw [this, List.take_left']
        simp only [List.length_append, hlP1, hlP2, encR_ok.len]
        omega
      · have := ((((hga.mono (fun _ _ h => h.elim)).trans hk4).trans (hG1.mono (fun _ _ h => h.elim))).trans hk5).trans (hG3.mono (fun _ _ h => h.elim))
        exact this.mono (fun k hk h => by omega)
end Go.Proofs.Ytffghamcggadcaa
