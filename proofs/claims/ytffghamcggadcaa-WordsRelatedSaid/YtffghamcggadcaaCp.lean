/- Contract: Compact on a row of rules of the call's own. No conditions beyond the lengths. -/
import Derived.Test.YtffghamcggadcaaSo
namespace Go.Proofs.Ytffghamcggadcaa
open Go.RowKit
set_option linter.unusedVariables false
set_option linter.unusedSimpArgs false
attribute [local go_sem] B_size B_toList B_append B_extract B_get take_rest
theorem Own.cell2 {w : World} {base g n c : Nat} {l : List Rule} (h : OwnR w base (.slice (some ⟨g, 0, none⟩) n c) l) {i : Nat} (hi : i < l.length) :
    w.cell? ⟨g, i * 2, none⟩ = some (.string (B l[i].1)) ∧ w.cell? ⟨g, i * 2 + 1, none⟩ = some (.string (B l[i].2)) ∧ w.frozen? ⟨g, i * 2, none⟩ = false ∧ w.frozen? ⟨g, i * 2 + 1, none⟩ = false := by
  have hn : n = l.length := by
    rcases h.2 with ⟨hv, _⟩ | ⟨g', cap, cur, hv, _⟩
    · cases hv
    · injection hv
  subst hn
  obtain ⟨ad, he, h0, h1⟩ := RAt.get (Own.at_ encR_ok h) hi
  cases he
  have hadd : (⟨g, 0, none⟩ : Addr).add (i * 2) = ⟨g, i * 2, none⟩ := by unfold Addr.add; split <;> simp_all
  rw [hadd] at h0 h1
  refine ⟨h0, h1, ?_, ?_⟩
  all_goals
    rcases h.2 with ⟨hv, _⟩ | ⟨g', cap, cur, hv, _, hgg, _⟩
    · cases hv
    · injection hv with hA
      cases hA
      simp [World.frozen?, hgg]
/-- element i is written -/
theorem Own.set2 {w : World} {base g n c : Nat} {l : List Rule} (h : OwnR w base (.slice (some ⟨g, 0, none⟩) n c) l) {i : Nat} (hi : i < l.length) (x : Rule) :
    OwnR ((w.setCell ⟨g, i * 2, none⟩ (.string (B x.1))).setCell ⟨g, i * 2 + 1, none⟩ (.string (B x.2))) base (.slice (some ⟨g, 0, none⟩) n c) (l.set i x) := by
  rcases h.2 with ⟨hv, _⟩ | ⟨g', cap, cur, hv, hb, hgg, h1, h2, h3, h4⟩
  · cases hv
  · injection hv with hA hn hc
    cases hA
    subst hn
    subst hc
    refine ⟨by rw [flat_len encR_ok], .inr ⟨g, c, (cur.setIfInBounds (i * 2) (.string (B x.1))).setIfInBounds (i * 2 + 1) (.string (B x.2)), by rw [List.length_set], hb, ((Blk.set_ (hgg : Blk w g _ cur) _ _).set_ _ _ : Blk _ _ _ _), by rw [List.length_set]; exact h1, h2, by simpa using h3, ?_⟩⟩
    rw [List.length_set]
    apply List.ext_getElem?
    intro j
    by_cases hj : j < l.length * 2
    · rw [List.getElem?_take, if_pos hj]
      have hjc : j < cur.size := by rw [h3]; omega
      have hm := Nat.mod_lt j (show 0 < 2 by decide)
      have hq : j / 2 < l.length := by omega
      have e0 : (cur.toList.take (l.length * 2))[j]? = (l.flatMap encR)[j]? := by rw [h4]
      rw [List.getElem?_take, if_pos hj] at e0
      rw [show j = j / 2 * 2 + j % 2 from by omega] at e0 ⊢
      rw [flat_get encR_ok l _ _ hq hm] at e0
      rw [flat_get encR_ok (l.set i x) _ _ (by simpa using hq) hm]
      simp only [Array.toList_setIfInBounds, List.getElem?_set]
      by_cases hij : i = j / 2
      · subst hij
        simp only [List.getElem_set_self]
        rcases Nat.mod_two_eq_zero_or_one j with hz | hz
        · rw [hz]; simp [encR, show j / 2 * 2 < cur.size by omega]
        · rw [hz]; simp [encR, show j / 2 * 2 + 1 < cur.size by omega]
      · rw [if_neg (by omega), if_neg (by omega), e0, List.getElem_set_ne hij]
    · rw [List.getElem?_take, if_neg hj, List.getElem?_eq_none (by rw [flat_len encR_ok, List.length_set]; omega)]
theorem eqFields_cons {P : Program} {d : Nat} {xs ys : Array Value} {f : Field} {fs : List Field} {a b : Value} {r s : Bool} {w : World} (hn : (f.name == "_") = false) (ha : (part f.type xs f.offset).run P w = .ok a w) (hb : (part f.type ys f.offset).run P w = .ok b w)
    (he : (Op.equalIn d f.type a b).run P w = .ok r w) (hr : (Op.eqFields d xs ys fs).run P w = .ok s w) : (Op.eqFields d xs ys (f :: fs)).run P w = .ok (r && s) w := by
  have hn' : f.name ≠ "_" := by simpa using hn
  rw [Op.eqFields]
  simp only [if_pos hn', Sem.run_bind, ha, hb, he, Result.andThen_ok]
  cases r
  · simp
  · simpa using hr
theorem equalIn_of {P : Program} {d : Nat} {xs ys : Array Value} {r : Bool} {w : World} {t : TypeId} {fs : Array Field} (hu : P.underlying t = some (.struct fs)) (hp : P.stoodInHeld t = false) (h : (Op.eqFields d xs ys fs.toList).run P w = .ok r w) :
    (Op.equalIn (d + 1) t (.agg xs) (.agg ys)).run P w = .ok r w := by
  have hf : P.fieldsOf t = fs := by simp [Program.fieldsOf, hu]
  rw [run_equalIn_struct (P := P) w d t xs ys (by rw [hf]; exact hu) hp, hf]
  exact h
theorem beqR (a b : Rule) : ((B a.1).toList == (B b.1).toList && ((B a.2).toList == (B b.2).toList && true)) = (a == b) := by
  obtain ⟨a1, a2⟩ := a
  obtain ⟨b1, b2⟩ := b
  simp only [B_toList, Bool.and_true]
  rfl
theorem equalR (d : Nat) (w : World) (a b : Rule) : (Op.equalIn (d + 2) 24 (.agg #[.string (B a.1), .string (B a.2)]) (.agg #[.string (B b.1), .string (B b.2)])).run Try.prog w = .ok (a == b) w := by
  refine equalIn_of Try.underlying24 (by kernel_rfl) ?_
  rw [← beqR]
  refine eqFields_cons (by rfl) (by go_simp; rfl) (by go_simp; rfl) (by exact run_equalIn_string _ _ _ _ _ (by kernel_rfl)) ?_
  refine eqFields_cons (by rfl) (by go_simp; rfl) (by go_simp; rfl) (by exact run_equalIn_string _ _ _ _ _ (by kernel_rfl)) ?_
  simp [Op.eqFields]
theorem eqR (w : World) (a b : Rule) : (binOp .eql 24 (.agg #[.string (B a.1), .string (B a.2)]) (.agg #[.string (B b.1), .string (B b.2)])).run Try.prog w = .ok (.bool (a == b)) w := by
  have h := equalR 9998 w a b
  simp only [binOp, Op.equal, Op.maxDepth, Sem.run_bind, h, Result.andThen_ok, Sem.run_pure]
theorem neR (w : World) (a b : Rule) : (binOp .neq 24 (.agg #[.string (B a.1), .string (B a.2)]) (.agg #[.string (B b.1), .string (B b.2)])).run Try.prog w = .ok (.bool (!(a == b))) w := by
  have h := equalR 9998 w a b
  simp only [binOp, Op.equal, Op.maxDepth, Sem.run_bind, h, Result.andThen_ok, Sem.run_pure]
/-- clear(s[k:]) -/
theorem run_clear {w : World} {base g n c : Nat} {l : List Rule} (h : OwnR w base (.slice (some ⟨g, 0, none⟩) n c) l) (kk : Nat) (hk : kk < l.length) (ty : TypeId) (c' : Nat) :
    ∃ w', (Builtin.clear_ #[25] ty #[.slice (some ⟨g, kk * 2, none⟩) (l.length - kk) c']).run Try.prog w = .ok (.tuple #[]) w' ∧ OwnR w' base (.slice (some ⟨g, 0, none⟩) kk c) (l.take kk) ∧ Kp (· = g) w w' := by
  rcases h.2 with ⟨hv, _⟩ | ⟨g', cap, cur, hv, hb, hgg, h1, h2, h3, h4⟩
  · cases hv
  · injection hv with hA hn hc
    cases hA
    subst hn
    subst hc
    have hfl : (Builtin.zeroCells (Value.agg #[.string ⟨#[]⟩, .string ⟨#[]⟩]).cells (l.length - kk)).toList = (List.replicate (l.length - kk) (([], []) : Rule)).flatMap encR := zeroCells_flat encR_ok rfl _
    have hlen : (Builtin.zeroCells (Value.agg #[.string ⟨#[]⟩, .string ⟨#[]⟩]).cells (l.length - kk)).toList.length = (l.length - kk) * 2 := by rw [hfl, flat_len encR_ok, List.length_replicate]
    have hst := run_storeCells_at Try.prog g (kk * 2) _ (Builtin.zeroCells (Value.agg #[.string ⟨#[]⟩, .string ⟨#[]⟩]).cells (l.length - kk)).toList 0 cur w hgg (by rw [hlen, h3]; omega) (fun v hv => by
      rw [hfl] at hv
      obtain ⟨x, _, hx⟩ := List.mem_flatMap.1 hv
      exact encR_ok.one x v hx)
    obtain ⟨m, hm⟩ : ∃ m, l.length - kk = m + 1 := ⟨l.length - kk - 1, by omega⟩
    have hru : (Builtin.clear_ #[25] ty #[.slice (some ⟨g, kk * 2, none⟩) (l.length - kk) c']).run Try.prog w = (storeCells ⟨g, kk * 2, none⟩ (Builtin.zeroCells (Value.agg #[.string ⟨#[]⟩, .string ⟨#[]⟩]).cells (l.length - kk)).toList 0 >>= fun _ => pure (Value.tuple #[])).run Try.prog w := by
      rw [hm]
      simp [Builtin.clear_, run_underlying Try.underlying25, Try.zeroValue24]
    refine ⟨_, hru.trans (by rw [Sem.run_bind, hst, Result.andThen_ok]; rfl), ?_, ?_⟩
    · have hr := setRow_heap w g cur ((cur.toList.take (kk * 2 + 0) ++ (Builtin.zeroCells (Value.agg #[.string ⟨#[]⟩, .string ⟨#[]⟩]).cells (l.length - kk)).toList ++ cur.toList.drop (kk * 2 + 0 + (Builtin.zeroCells (Value.agg #[.string ⟨#[]⟩, .string ⟨#[]⟩]).cells (l.length - kk)).toList.length)).toArray) _ _ hgg
      have hll : (l.take kk).length = kk := by simp; omega
      refine ⟨flat_len encR_ok _, .inr ⟨g, c, _, by rw [hll], hb, hr, by rw [hll]; omega, h2, ?_, ?_⟩⟩
      · simp only [List.size_toArray, List.length_append, hlen, List.length_take, List.length_drop, Array.length_toList, h3]
        omega
      · rw [hll]
        simp only [Nat.add_zero]
        rw [List.append_assoc, List.take_left' (by simp [h3]; omega)]
        have : l.flatMap encR = (l.take kk).flatMap encR ++ (l.drop kk).flatMap encR := by rw [← List.flatMap_append, List.take_append_drop]
        rw [this] at h4
        have h5 := congrArg (List.take (kk * 2)) h4
        rw [List.take_take, Nat.min_eq_left (by omega), List.take_left' (by rw [flat_len encR_ok, hll])] at h5
        exact h5
    · exact ⟨rfl, rfl, rfl, by simp, fun k _ hs => setRow_other w g k _ hs⟩
theorem wpl_clear {P : Program} {w w' : World} {ops : Array Oper} {rest : List Oper} {o : Oper} {a : Act} {Q : Exit → Act → World → Prop} (hgd : o.guard = none) (s : Operand) (t : TypeId)
    (ho : o.op = .call { callee := .builtin .clear, args := #[s], argTypes := #[t] }) (v : Value) (hs : a.eval s = v) (hrun : (Builtin.clear_ #[t] o.type #[v]).run P w = .ok (.tuple #[]) w')
    (h : wpList P ops Q rest (a.put o.dst (.tuple #[])) w') : wpList P ops Q (o :: rest) a w := by
  refine wpList_plain hgd fun K hK => ?_
  unfold Oper.wp execOp
  simp only [ho, resolve, invoke, builtin, Sem.run_bind, Sem.run_pure, Result.andThen_ok, List.map_toArray, List.map_cons, List.map_nil, hs, hrun]
  exact hK _ _ h
set_option maxHeartbeats 8000000 in
set_option maxRecDepth 20000 in
theorem compact_any (l : List Rule) (base g c : Nat) (w : World) (hn : l.length ≤ 1000000000) (h : OwnR w base (.slice (some ⟨g, 0, none⟩) l.length c) l) :
    Calls Try.prog 54 #[.slice (some ⟨g, 0, none⟩) l.length c] w
      fun e w' => ∃ v', e = .returned v' ∧ OwnR w' base v' (dedup l) ∧ v'.ownBlock = some g ∧ Kp (· = g) w w' := by
  have Hown := Lib.hid h
  have hlc : l.length ≤ c := by
    obtain ⟨A, c', hv, h1, _⟩ := Own.slice h
    injection hv with _ _ hc
    omega
  clear h
  by_cases h2 : l.length < 2
  · go_enter Try.func54, Try.ntmps54
    go_wp2
    go_ret
    refine ⟨_, rfl, ?_, rfl, Kp.refl _ _⟩
    have : dedup l = l := by
      match l, h2 with
      | [], _ => rfl
      | [x], _ => rfl
    rw [this]
    exact Hown.out
  · go_enter Try.func54, Try.ntmps54
    go_wp2
    go_loopw [3] (fun i wr => ∃ k : Nat, 1 ≤ k ∧ k ≤ l.length ∧ i = .int .i64 k ∧ Hid (NoTwins l k) ∧ Hid (Gr w wr)) (fun i _ => l.length - (intOf i).toNat)
    case atStart => exact ⟨1, by omega, by omega, rfl, fun i h h' => absurd h' (by omega), Kp.refl _ _⟩
    case round =>
      obtain ⟨k, hk1, hk, rfl, hnt, hg⟩ := hrel
      by_cases hlt : k < l.length
      · obtain ⟨c0, c1, f0, f1⟩ := Own.cell2 (Hown.out.gr hg.out) hlt
        obtain ⟨d0, d1, g0, g1⟩ := Own.cell2 (Hown.out.gr hg.out) (show k - 1 < l.length by omega)
        by_cases hee : l[k] = l[k - 1]
        · have heq := fun w => eqR w l[k] l[k - 1]
          have hb : (l[k] == l[k - 1]) = true := by simp [hee]
          simp only [hb] at heq
          go_wp2
          go_quiet (fail)
          go_wp2
          go_loopw [3, 5] (fun i i2 wr => ∃ (kk k2 : Nat) (M : List Rule), i = .int .i64 kk ∧ i2 = .int .i64 k2 ∧ 1 ≤ k2 ∧ k + k2 ≤ l.length ∧ 1 ≤ kk ∧ kk < k + k2 ∧ Hid (M.length = l.length ∧ M.take kk = dedup (l.take (k + k2)) ∧ ∀ j (h : j < l.length) (h' : j < M.length), k + k2 ≤ j + 1 → M[j] = l[j]) ∧ Hid (OwnR wr base (.slice (some ⟨g, 0, none⟩) l.length c) M) ∧ Hid (Kp (· = g) w wr)) (fun _ i _ => l.length - (intOf i).toNat)
          case atStart => 
            refine ⟨k, 1, l, rfl, rfl, by omega, by omega, by omega, by omega, ⟨rfl, ?_, fun _ _ _ _ => rfl⟩, (Hown.out.gr hg.out).gr (Kp.drewN (Kp.refl _ _) _), (hg.out.mono (fun _ _ h => h.elim)).drewN _⟩
            rw [dedup_take_succ l k hk1 hlt, if_pos hee.symm, dedup_noTwins l k (by omega) hnt.out]
          case round =>
            obtain ⟨kk, k2, M, rfl, rfl, h21, h22, h23, h24, hM, hOM, hKM⟩ := hrel
            obtain ⟨hM1, hM2, hM3⟩ := hM.out
            have HM := Lib.hid hM2
            clear hM2 hM
            by_cases hl2 : k2 < l.length - k
            · obtain ⟨c0, c1, f0, f1⟩ := Own.cell2 hOM.out (show k + k2 < M.length by omega)
              obtain ⟨d0, d1, g0, g1⟩ := Own.cell2 hOM.out (show k + k2 - 1 < M.length by omega)
              rw [show (k + k2) * 2 = k * 2 + k2 * 2 from by omega] at c0 c1 f0 f1
              rw [show (k + k2 - 1) * 2 = k * 2 + (k2 - 1) * 2 from by omega] at d0 d1 g0 g1
              have e1 : M[k + k2]'(by omega) = l[k + k2]'(by omega) := hM3 _ _ _ (by omega)
              have e2 : M[k + k2 - 1]'(by omega) = l[k + k2 - 1]'(by omega) := hM3 _ _ _ (by omega)
              have heq := fun w => neR w (M[k + k2]'(by omega)) (M[k + k2 - 1]'(by omega))
              obtain ⟨b, hb⟩ : ∃ b, (!(M[k + k2]'(by omega) == M[k + k2 - 1]'(by omega))) = b := ⟨_, rfl⟩
              simp only [hb] at heq
              have E1 := Lib.hid e1
              have E2 := Lib.hid e2
              have Hb := Lib.hid hb
              clear e1 e2 hb
              go_wp2
              go_quiet (fail)
              have e1 := E1.out
              have e2 := E2.out
              have hb := Hb.out
              rw [e1, e2] at hb
              cases b
              · have hee2 : l[k + k2]'(by omega) = l[k + k2 - 1]'(by omega) := by simpa using hb
                go_wp2
                go_roundw
                case rel =>
                  refine ⟨kk, k2 + 1, M, rfl, by simp [go_sem], by omega, by omega, by omega, by omega, ⟨hM1, ?_, fun j h h' hj => hM3 j h h' (by omega)⟩, hOM.out.gr (Kp.drewN (Kp.refl _ _) _), hKM.out.drewN _⟩
                  rw [← Nat.add_assoc, dedup_take_succ l (k + k2) (by omega) (by omega), if_pos hee2.symm]
                  exact HM.out
                case measure => simp [intOf]; omega
              · have hee2 : ¬ l[k + k2]'(by omega) = l[k + k2 - 1]'(by omega) := by simpa using hb
                have hOM' := Lib.hid (Own.gr hOM.out (Kp.drewN (Kp.refl _ _) nq))
                obtain ⟨k0, k1, l0, l1⟩ := Own.cell2 hOM'.out (show kk < M.length by omega)
                go_wp2
                go_roundw
                case rel => 
                  refine ⟨kk + 1, k2 + 1, M.set kk (l[k + k2]'(by omega)), by simp [go_sem], by simp [go_sem], by omega, by omega, by omega, by omega, ⟨by simpa using hM1, ?_, ?_⟩, ?_, ?_⟩
                  · rw [← Nat.add_assoc, dedup_take_succ l (k + k2) (by omega) (by omega), if_neg (fun h => hee2 h.symm), ← HM.out, List.take_succ_eq_append_getElem (by simp; omega)]
                    simp [List.take_set_of_le]
                  · intro j h h' hj
                    rw [List.getElem_set_ne (by omega)]
                    exact hM3 _ _ _ (by omega)
                  · have h := Own.set2 hOM'.out (show kk < M.length by omega) (M[k + k2]'(by omega))
                    rw [← e1]
                    exact h
                  · exact (hKM.out.drewN _).trans (Kp.set2 _ _ _ _ _ _)
                case measure => simp [intOf]; omega
            · have hkl : k + k2 = l.length := by omega
              obtain ⟨wz, hz1, hz2, hz3⟩ := run_clear hOM.out kk (by omega) 0 (c - kk)
              rw [hM1] at hz1
              go_wp2_with (refine wpl_clear rfl _ _ rfl _ rfl hz1 ?_)
              go_ret
              refine ⟨_, rfl, ?_, rfl, hKM.out.trans hz3⟩
              rw [HM.out, hkl, List.take_length] at hz2
              exact hz2
        · have heq := fun w => eqR w l[k] l[k - 1]
          have hb : (l[k] == l[k - 1]) = false := by simp [hee]
          simp only [hb] at heq
          go_wp2
          go_quiet (fail)
          go_wp2
          go_roundw
          case rel =>
            refine ⟨k + 1, by omega, by omega, by simp [go_sem], ?_, hg.out.trans (Kp.drewN (Kp.refl _ _) _)⟩
            intro i h hi
            by_cases hik : i + 1 = k
            · subst hik
              exact fun h => hee (by simpa using h.symm)
            · exact hnt.out i h (by omega)
          case measure => simp [intOf]; omega
      · have hkl : k = l.length := by omega
        subst hkl
        go_wp2
        go_ret
        refine ⟨_, rfl, ?_, rfl, hg.out.mono (fun _ _ h => h.elim)⟩
        have hd := dedup_noTwins l l.length (Nat.le_refl _) hnt.out
        rw [List.take_length] at hd
        rw [hd]
        exact Hown.out.gr hg.out
end Go.Proofs.Ytffghamcggadcaa
