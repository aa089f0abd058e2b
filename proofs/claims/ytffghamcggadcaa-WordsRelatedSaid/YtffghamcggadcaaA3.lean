/- Contract: newAutomaton. -/
import Derived.Test.YtffghamcggadcaaA2
namespace Go.Proofs.Ytffghamcggadcaa
open Go.RowKit Go.Maps
set_option linter.unusedVariables false
set_option linter.unusedSimpArgs false
attribute [local go_sem] B_size B_toList B_append B_extract B_get take_rest
def statesTo (l : List Rule) (i : Nat) : List Str := ((l.take i).flatMap beginnings).foldl addS [[]]
theorem statesTo_zero (l : List Rule) : statesTo l 0 = [[]] := by simp [statesTo]
theorem statesTo_all (l : List Rule) : statesTo l l.length = states l := by simp [statesTo, states]
theorem statesTo_succ (l : List Rule) (i : Nat) (h : i < l.length) : statesTo l (i + 1) = (beginnings l[i]).foldl addS (statesTo l i) := by
  unfold statesTo
  rw [List.take_succ_eq_append_getElem h, List.flatMap_append, List.foldl_append]
  simp
theorem begTo_succ (r : Rule) (n : Nat) : begTo r (n + 1) = begTo r n ++ [r.1.take (n + 1)] := by
  unfold begTo
  rw [List.range_succ, List.map_append]
  rfl
theorem fold_begTo_succ (r : Rule) (n : Nat) (P : List Str) : (begTo r (n + 1)).foldl addS P = addS ((begTo r n).foldl addS P) (r.1.take (n + 1)) := by
  rw [begTo_succ, List.foldl_append]
  rfl
theorem beg_len (r : Rule) (n : Nat) : (begTo r n).length = n := by simp [begTo]
theorem statesTo_len (l : List Rule) (i : Nat) (hl : l.length ≤ 64) (ht : ∀ r ∈ l, r.1.length ≤ 24) : (statesTo l i).length ≤ 1537 := by
  have h1 := foldS_len ((l.take i).flatMap beginnings) [[]]
  have h2 := flatMap_len' beginnings 24 (l.take i) fun r hr => by have := ht r (List.mem_of_mem_take hr); simp [beginnings, begTo]; omega
  have h3 : (l.take i).length * 24 ≤ 64 * 24 := Nat.mul_le_mul_right 24 (by simp; omega)
  simp only [statesTo, List.length_singleton] at *
  omega
theorem fold_len (r : Rule) (n i : Nat) (l : List Rule) (hl : l.length ≤ 64) (ht : ∀ r ∈ l, r.1.length ≤ 24) (hn : n ≤ 24) : ((begTo r n).foldl addS (statesTo l i)).length ≤ 1600 := by
  have h1 := foldS_len (begTo r n) (statesTo l i)
  rw [beg_len] at h1
  have h2 := statesTo_len l i hl ht
  omega
theorem letter_nat (d : Nat) (h : d < 100) : (letter d).toNat = 97 + d := by
  unfold letter
  rw [UInt8.toNat_ofNat']
  omega
theorem run_conv_letter (w : World) (d : Nat) (h : d < 100) : (convert 46 9 (.slice (some ⟨w.heap.size, 0, none⟩) 1 1)).run Try.prog (w.alloc (.cells #[.int .u8 (97 + (d : Int))] 5)) = .ok (.string (B [letter d])) (w.alloc (.cells #[.int .u8 (97 + (d : Int))] 5)) := by
  refine run_convert_bytes_back (P := Try.prog) (w.alloc (.cells #[.int .u8 (97 + (d : Int))] 5)) 46 9 5 ⟨w.heap.size, 0, none⟩ 1 [letter d] Try.underlying46 Try.underlying5 Try.underlying9 (fun j hj => ?_)
  obtain rfl : j = 0 := by simpa using hj
  have h1 := (Blk.new w 5 #[.int .u8 (97 + (d : Int))]).cell 0
  simp [letter_nat d h]
  exact h1
theorem fill_step (row : List Int) (k d : Nat) (hk : row.length = k) (hd : d < k) : (row.take d ++ List.replicate (k - d) 0).set d (row[d]'(by omega)) = row.take (d + 1) ++ List.replicate (k - (d + 1)) 0 := by
  have hl : (row.take d).length = d := by simp; omega
  rw [List.set_append_right _ _ (by omega), hl, Nat.sub_self, show k - d = (k - (d + 1)) + 1 from by omega, List.replicate_succ, List.set_cons_zero, List.take_succ_eq_append_getElem (by omega), List.append_assoc]
  rfl
theorem rowN_get (l : List Rule) (P : List Str) (k : Nat) (s : Str) (d : Nat) (h : d < (rowN l P k s).length) : (rowN l P k s)[d] = stepN l P (s ++ [letter d]) := by simp [rowN]
theorem Kp.new {S T : Nat → Prop} {w w' w'' : World} (h : Kp S w w') (k : Kp T w' w'') (hs : ∀ i, i < w.heap.size → T i → S i) : Kp S w w'' :=
  ⟨k.os.trans h.os, k.tape.trans h.tape, k.output.trans h.output, Nat.le_trans h.size k.size, fun i hi hn => (k.block i (Nat.lt_of_lt_of_le hi h.size) (fun ht => hn (hs i hi ht))).trans (h.block i hi hn)⟩
def GivesA (w : World) (tab : List (List Int)) (e : Ending) (w' : World) : Prop := ∃ a, e = .returned (.pointer (some a)) ∧ TabAt w' a tab ∧ Gr w w'
set_option maxHeartbeats 4000000 in
set_option maxRecDepth 20000 in
theorem newAutomaton_any (l : List Rule) (k : Nat) (A : Option Addr) (c : Nat) (w : World) (hn : l.length ≤ 64) (hk1 : 1 ≤ k) (hk8 : k ≤ 8) (hL : ∀ r ∈ l, r.1.length ≤ 24) (hl : RAt w A l) :
    Calls Try.prog 26 #[.slice A l.length c, .int .i64 k] w (GivesA w (tableN l (states l) k)) := by
  have Hl := Lib.hid hl
  have HL := Lib.hid hL
  clear hl hL
  have hmk := fun w : World => run_makeMap (P := Try.prog) 80 w
  go_enter Try.func26, Try.ntmps26
  obtain ⟨mb, hmb⟩ : ∃ mb, mb = w.heap.size + 1 := ⟨_, rfl⟩
  obtain ⟨wm, hrun, hkm, hkpm⟩ := (KS.made (w.alloc (.cells #[.slice none 0 0] 62))).put (by omega) (by simp) [] (by simp) (by simp)
  simp only [World.size_alloc, List.length_nil, List.nil_append] at hrun hkm hkpm
  go_wp2_with (refine wpl_insert rfl _ _ _ 80 rfl _ _ _ rfl rfl rfl hrun ?_)
  have hxb0 : Blk wm w.heap.size 62 #[.slice none 0 0] := (((Blk.new w 62 #[.slice none 0 0]).alloc (.map #[] 0))).kp hkpm (by omega)
  have hgm : Gr w wm := Gr.kp (((Kp.refl _ w).alloc _).alloc _) hkpm (fun i h1 h2 => by omega)
  have hgl : Gr w (wm.alloc (.cells #[.string ⟨#[]⟩] 9)) := hgm.alloc _
  have hown0 : OwnS (wm.alloc (.cells #[.string ⟨#[]⟩] 9)) w.heap.size (.slice (some ⟨wm.heap.size, 0, none⟩) 1 1) (statesTo l 0) := by
    rw [statesTo_zero]
    exact own_alloc encS_ok hgm.size [[]] #[.string ⟨#[]⟩] 1 (by simp) (by simp [maxLen]) rfl rfl
  have hkm0 : Hid (KS (wm.alloc (.cells #[.string ⟨#[]⟩] 9)) mb 1 (statesTo l 0)) := by
    rw [statesTo_zero, hmb]
    exact hkm.gr ((Kp.refl _ _).alloc _)
  have hxb1 := Lib.hid (hxb0.alloc (.cells #[.string ⟨#[]⟩] 9))
  have hnm : ¬ (Value.slice (some ⟨wm.heap.size, 0, none⟩) 1 1).ownBlock = some mb := fun h => by
    have h' : wm.heap.size = mb := by injection h
    have := hkm.lt
    omega
  have hnx : ¬ (Value.slice (some ⟨wm.heap.size, 0, none⟩) 1 1).ownBlock = some w.heap.size := fun h => by
    have h' : wm.heap.size = w.heap.size := by injection h
    have := hxb0.lt
    omega
  rw [← hmb]
  have hmb0 : w.heap.size < mb := by omega
  clear hkm hkpm hxb0 hgm hrun hmb
  replace hown0 := Lib.hid hown0
  replace hgl := Lib.hid hgl
  go_loopw [7, 24] (fun v vi wr => ∃ (i : Nat) (u : Value), u = v ∧ i ≤ l.length ∧ vi = .int .i64 i ∧ Hid (OwnS wr w.heap.size v (statesTo l i)) ∧ Hid (KS wr mb (1 + i * 30) (statesTo l i)) ∧ Hid (Blk wr w.heap.size 62 #[.slice none 0 0]) ∧ Hid (Gr w wr) ∧ ¬ u.ownBlock = some mb ∧ ¬ u.ownBlock = some w.heap.size) (fun _ vi _ => l.length - (intOf vi).toNat)
  case atStart => exact ⟨0, _, rfl, by omega, rfl, hown0, hkm0, hxb1, hgl, hnm, hnx⟩
  case round =>
    clear hown0 hkm0 hxb1 hgl hnm hnx
    obtain ⟨i, u, hu, hi, rfl, hown, hkm, hxb, hg, hnm, hnx⟩ := hrel
    subst hu
    by_cases hlt : i < l.length
    · obtain ⟨ad, rfl, h0, h1⟩ := RAt.get (Hl.out.gr hg.out) hlt
      have hri := HL.out l[i] (List.getElem_mem hlt)
      go_wp2
      obtain ⟨ba, hbae⟩ : ∃ ba, ba = wr.heap.size := ⟨_, rfl⟩
      have hba := Lib.hid (Blk.new wr 24 #[.string (B l[i].1), .string (B l[i].2)])
      have hown1 := Lib.hid (hown.out.gr ((Kp.refl _ _).alloc (.cells #[.string (B l[i].1), .string (B l[i].2)] 24)))
      have hkm1 := Lib.hid (hkm.out.gr ((Kp.refl _ _).alloc (.cells #[.string (B l[i].1), .string (B l[i].2)] 24)))
      have hxb1 := Lib.hid (hxb.out.alloc (.cells #[.string (B l[i].1), .string (B l[i].2)] 24))
      have hg1 := Lib.hid (hg.out.alloc (.cells #[.string (B l[i].1), .string (B l[i].2)] 24))
      have hnb1 : ¬ u.ownBlock = some wr.heap.size := fun h => by have := (Own.lt hown.out h).2; omega
      have hbm : mb < ba := by have := hkm.out.lt; omega
      have hbx : w.heap.size < ba := by have := hxb.out.lt; omega
      rw [← hbae] at hba hnb1 ⊢
      clear hbae
      go_loopw [7, 10] (fun v vk wr2 => ∃ (j : Nat) (u2 : Value), u2 = v ∧ (j ≤ l[i].1.length - 1) ∧ vk = .int .i64 (j + 1 : Nat) ∧ Hid (OwnS wr2 w.heap.size v ((begTo l[i] j).foldl addS (statesTo l i))) ∧ Hid (KS wr2 mb (1 + i * 30 + j) ((begTo l[i] j).foldl addS (statesTo l i))) ∧ Hid (Blk wr2 w.heap.size 62 #[.slice none 0 0]) ∧ Hid (Gr w wr2) ∧ Hid (Blk wr2 ba 24 #[.string (B l[i].1), .string (B l[i].2)]) ∧ ¬ u2.ownBlock = some mb ∧ ¬ u2.ownBlock = some w.heap.size ∧ ¬ u2.ownBlock = some ba) (fun _ vk _ => l[i].1.length + 1 - (intOf vk).toNat)
      case atStart => exact ⟨0, _, rfl, by omega, rfl, hown1, hkm1, hxb1, hg1, hba, hnm, hnx, hnb1⟩
      case round =>
        clear hown1 hkm1 hxb1 hg1 hba hnm hnx hnb1 hown hkm hxb hg h0 h1
        obtain ⟨j, u2, hu2, hj, rfl, hown, hkm, hxb, hg, hba, hnm, hnx, hnb⟩ := hrel
        subst hu2
        have hb2 := hba.out.two
        by_cases hlt2 : j + 1 < l[i].1.length
        · have hlook := hkm.out.look (l[i].1.take (j + 1)) (by simp; omega)
          by_cases hmem : l[i].1.take (j + 1) ∈ (begTo l[i] j).foldl addS (statesTo l i)
          · rw [if_pos hmem, show decide (l[i].1.take (j + 1) ∈ (begTo l[i] j).foldl addS (statesTo l i)) = true from by simpa using hmem] at hlook
            have Hmem := Lib.hid hmem
            clear hmem
            go_wp2
            refine ⟨⟨j + 1, _, rfl, by omega, by go_num, ?_, ?_, hxb, hg, hba, hnm, hnx, hnb⟩, by simp [intOf]; omega⟩
            · rw [fold_begTo_succ, addS, if_pos Hmem.out]; exact hown
            · rw [fold_begTo_succ, addS, if_pos Hmem.out]; exact Lib.hid (hkm.out.mono (by omega))
          · rw [if_neg hmem, show decide (l[i].1.take (j + 1) ∈ (begTo l[i] j).foldl addS (statesTo l i)) = false from by simpa using hmem] at hlook
            have hpl := fold_len l[i] j i l hn HL.out (by omega)
            have Hmem := Lib.hid hmem
            clear hmem
            obtain ⟨A2, c2, hu2, hlc2, hcm2⟩ := Own.slice hown.out
            subst hu2
            obtain ⟨wk, hrun, hkm', hkp'⟩ := hkm.out.put (by omega) (by omega) (l[i].1.take (j + 1)) (by simp; omega) Hmem.out
            have hbk := (hba.out.kp hkp' (by omega)).two
            have Hownk := Lib.hid ((hown.out.kp hkp' (fun b hb e => hnm (e ▸ hb))).gr ((Kp.refl _ _).alloc (.cells #[.string (B (l[i].1.take (j + 1)))] 9)))
            have Hkmk := Lib.hid (hkm'.gr ((Kp.refl _ _).alloc (.cells #[.string (B (l[i].1.take (j + 1)))] 9)))
            have Hxbk := Lib.hid ((hxb.out.kp hkp' (by omega)).alloc (.cells #[.string (B (l[i].1.take (j + 1)))] 9))
            have Hbak := Lib.hid ((hba.out.kp hkp' (by omega)).alloc (.cells #[.string (B (l[i].1.take (j + 1)))] 9))
            have Hgk := Lib.hid ((Gr.kp hg.out hkp' (fun i h1 h2 => by omega)).alloc (.cells #[.string (B (l[i].1.take (j + 1)))] 9))
            have Hone := Lib.hid (At.of_blk (l := [l[i].1.take (j + 1)]) encS_ok (Blk.new wk 9 #[.string (B (l[i].1.take (j + 1)))]))
            clear hkm' hkp'
            go_wp2_with (first | (refine wpl_storeM rfl _ _ _ 80 rfl _ _ _ rfl rfl rfl hrun ?_) | (at_builtin; refine wpl_append (l := (begTo l[i] j).foldl addS (statesTo l i)) (m := [l[i].1.take (j + 1)]) (base := w.heap.size) rfl encS_ok elemS _ _ rfl rfl Hownk.out 1 rfl Hone.out (by simp; omega) Hgk.out.size ?_; intro v4 w4 hown4 hk4 hb4; replace hown4 := Lib.hid hown4; replace hk4 := Lib.hid hk4; replace hb4 := Lib.hid hb4))
            refine ⟨⟨j + 1, _, rfl, by omega, by go_num, ?_, ?_, ?_, ?_, ?_, ?_⟩, by simp [intOf]; omega⟩
            · rw [fold_begTo_succ, addS, if_neg Hmem.out]; exact hown4
            · rw [fold_begTo_succ, addS, if_neg Hmem.out]; exact Lib.hid ((Hkmk.out.kp hk4.out hnm).mono (by omega))
            · exact Lib.hid (Hxbk.out.kp hk4.out hnx)
            · exact Lib.hid (Gr.kp Hgk.out hk4.out (fun i h1 h2 => by have := (Own.lt Hownk.out h2).1; omega))
            · exact Lib.hid (Hbak.out.kp hk4.out hnb)
            · rcases hb4.out with h | h
              · rw [h]; exact ⟨hnm, hnx, hnb⟩
              · rw [h]
                have q1 := Hkmk.out.lt
                have q2 := Hxbk.out.lt
                have q3 := Hbak.out.lt
                refine ⟨fun e => ?_, fun e => ?_, fun e => ?_⟩ <;> (injection e with e; omega)
        · go_wp2
          refine ⟨⟨i + 1, _, rfl, by omega, by go_num, ?_, ?_, hxb, hg, hnm, hnx⟩, by simp [intOf]; omega⟩
          all_goals
            rw [statesTo_succ l i hlt]
            unfold beginnings
            rw [show l[i].1.length - 1 = j from by omega]
          · exact hown
          · exact Lib.hid (hkm.out.mono (by omega))
    · obtain rfl : i = l.length := by omega
      rw [statesTo_all] at hown hkm
      obtain ⟨SA, SC, hu2, hlc2, hcm2⟩ := Own.slice hown.out
      subst hu2
      have Hst := Lib.hid (Own.at_ encS_ok hown.out)
      have hls := Lib.hid (fun s (hs : s ∈ states l) => state_len HL.out hs)
      have hpl := states_len l hn HL.out
      go_wp2
      clear Hst hnm
      obtain ⟨wl, rfl⟩ : ∃ wl : World, wl = wr := ⟨_, rfl⟩
      obtain ⟨B0, hB0⟩ : ∃ B0, B0 = wl.heap.size := ⟨_, rfl⟩
      have hmB : mb < B0 := by have := hkm.out.lt; omega
      have hbB := hg.out.size
      go_loopw [63] (fun vi wr2 => ∃ (q : Nat) (NV : Value) (ds : List SD), q ≤ (states l).length ∧ vi = .int .i64 q ∧ Hid (OwnV wr2 B0 NV ds) ∧ Hid (RowsOk wr2 B0 ds (((states l).take q).map (rowN l (states l) k))) ∧ Hid (Blk wr2 w.heap.size 62 #[NV]) ∧ Hid (Kp (· = w.heap.size) wl wr2)) (fun vi _ => (states l).length - (intOf vi).toNat)
      case atStart => exact ⟨0, _, [], by omega, rfl, Lib.hid (Own.nil _ _ _ _ _), Lib.hid (RowsOk.nil _ _), hxb, Lib.hid (Kp.refl _ _)⟩
      case round =>
        obtain ⟨q, NV, ds, hq, rfl, hnv, hrows, hxb2, hk2⟩ := hrel
        obtain ⟨NA, NC, rfl, hlcN, hcmN⟩ := Own.slice hnv.out
        have hnvx : ¬ (Value.slice NA ds.length NC).ownBlock = some w.heap.size := fun h => by have := (Own.lt hnv.out h).1; omega
        have hg2 := Lib.hid (Gr.kp hg.out hk2.out (fun i h1 h2 => by omega))
        have hxc := hxb2.out.cell 0
        simp at hxc
        have hxf := hxb2.out.frozen 0
        by_cases hlt : q < (states l).length
        · obtain ⟨ad, rfl, h0⟩ := SAt.get (Own.at_ encS_ok (hown.out.kp hk2.out (fun b hb e => hnx (e ▸ hb)))) hlt
          have hsl := hls.out _ (List.getElem_mem hlt)
          obtain ⟨wq, rfl⟩ : ∃ wq : World, wq = wr := ⟨_, rfl⟩
          go_wp2_with (refine wpl_make rfl _ _ rfl k rfl rfl (by omega) ?_; intro w5 hrb hg5 hrs5; replace hrb := Lib.hid hrb; replace hg5 := Lib.hid hg5)
          obtain ⟨rb, hrbe⟩ : ∃ rb, rb = wq.heap.size := ⟨_, rfl⟩
          have hBq := hk2.out.size
          rw [← hrbe] at hrb hrs5 ⊢
          have Hrbe := Lib.hid hrbe
          clear hrbe
          go_loopw [70] (fun vc wr3 => ∃ (d : Nat), d ≤ k ∧ vc = .int .i64 d ∧ Hid (Blk wr3 rb 3 (cellsI ((rowN l (states l) k (states l)[q]).take d ++ List.replicate (k - d) 0))) ∧ Hid (Kp (· = rb) w5 wr3)) (fun vc _ => k - (intOf vc).toNat)
          case atStart => exact ⟨0, by omega, rfl, by simpa using hrb, Lib.hid (Kp.refl _ _)⟩
          case round =>
            obtain ⟨d, hd, rfl, hrb3, hk3⟩ := hrel
            by_cases hltd : d < k
            · have hconv := run_conv_letter wr d (by omega)
              have hg3 := Lib.hid ((Gr.kp hg5.out hk3.out (fun i h1 h2 => by have := Hrbe.out; omega)).alloc (.cells #[.int .u8 (97 + (d : Int))] 5))
              have hga := Lib.hid (hg2.out.trans hg3.out)
              go_wp2_with fail
              refine (step_any l (states l) ((states l)[q] ++ [letter d]) A c mb _ _ hn HL.out (by simp; omega) (states_nil l) (Hl.out.gr hga.out) ((hkm.out.kp hk2.out (by omega)).gr hg3.out)).mono ?_
              rintro e w6 ⟨rfl, hg6⟩
              have Hb6 := Lib.hid ((hrb3.out.alloc (.cells #[.int .u8 (97 + (d : Int))] 5)).gr hg6)
              have hf6 := Hb6.out.frozen d
              have hc6 := Hb6.out.cell d
              rw [cellsI_get _ _ (by simp [rowN_len]; omega)] at hc6
              have Hg6 := Lib.hid (((Kp.refl (· = rb) wr).alloc (.cells #[.int .u8 (97 + (d : Int))] 5)).trans (hg6.mono (fun _ _ h => h.elim)))
              clear hg6 hconv
              go_wp2_with fail
              refine ⟨⟨d + 1, by omega, by go_num, ?_, Lib.hid ((hk3.out.trans Hg6.out).setCell (fun _ => rfl) _)⟩, by simp [intOf]; omega⟩
              have hbb := Hb6.out.set_ d (.int .i64 (stepN l (states l) ((states l)[q] ++ [letter d])))
              rw [cellsI_set, ← rowN_get l (states l) k (states l)[q] d (by rw [rowN_len]; omega), fill_step _ k d (rowN_len _ _ _ _) hltd] at hbb
              rw [← rowN_get l (states l) k (states l)[q] d (by rw [rowN_len]; omega)]
              exact Lib.hid hbb
            · have e := show (rowN l (states l) k (states l)[q]).take d ++ List.replicate (k - d) 0 = rowN l (states l) k (states l)[q] from by
                rw [List.take_of_length_le (by rw [rowN_len]; omega), show k - d = 0 from by omega]
                simp
              rw [e] at hrb3
              have hg3 := Lib.hid (Gr.kp hg5.out hk3.out (fun i h1 h2 => by have := Hrbe.out; omega))
              have hxb3 := (hxb2.out.gr hg3.out)
              have hxc3 := hxb3.cell 0
              simp at hxc3
              have hxc3' := (hxb3.alloc (.cells #[.slice (some ⟨rb, 0, none⟩) k k] 37)).cell 0
              simp at hxc3'
              have Hnv3 := Lib.hid ((hnv.out.gr hg3.out).gr ((Kp.refl _ _).alloc (.cells #[.slice (some ⟨rb, 0, none⟩) k k] 37)))
              have Hone := Lib.hid (At.of_blk (l := [((some ⟨rb, 0, none⟩, k, k) : SD)]) encV_ok (Blk.new wr 37 #[.slice (some ⟨rb, 0, none⟩) k k]))
              have hdl := Lib.hid (show ds.length = q from by have := hrows.out.1; simp at this; omega)
              have Hb3 := Lib.hid (show B0 ≤ (wr.alloc (.cells #[.slice (some ⟨rb, 0, none⟩) k k] 37)).heap.size from by have := hg3.out.size; simp; omega)
              have Hxb3 := Lib.hid (hxb3.alloc (.cells #[.slice (some ⟨rb, 0, none⟩) k k] 37))
              clear hxb3
              go_wp2_with (at_builtin; refine wpl_append (l := ds) (m := [((some ⟨rb, 0, none⟩, k, k) : SD)]) (base := B0) rfl encV_ok elemV _ _ rfl rfl Hnv3.out 1 rfl Hone.out (by have := hdl.out; simp; omega) Hb3.out ?_; intro v4 w4 hown4 hk4 hb4; have hxf4 := (Hxb3.out.kp hk4 hnvx).frozen 0; have hxc4 := (Hxb3.out.kp hk4 hnvx).cell 0; simp at hxc4; obtain ⟨A4, c4, hv4, hl4, hc4⟩ := Own.slice hown4; subst hv4; clear hl4 hc4; replace hown4 := Lib.hid hown4; replace hk4 := Lib.hid hk4; replace hb4 := Lib.hid hb4)
              have hxb4 := (Hxb3.out.kp hk4.out hnvx)
              have hAx : ¬ (Value.slice A4 (ds ++ [((some ⟨rb, 0, none⟩, k, k) : SD)]).length c4).ownBlock = some w.heap.size := fun h => by have := (Own.lt hown4.out h).1; omega
              refine ⟨⟨q + 1, .slice A4 (ds ++ [((some ⟨rb, 0, none⟩, k, k) : SD)]).length c4, ds ++ [((some ⟨rb, 0, none⟩, k, k) : SD)], by omega, by go_num, ?_, ?_, ?_, ?_⟩, by simp [intOf]; omega⟩
              · exact Lib.hid (hown4.out.kp (Kp.set1 _ _ _ _) (fun b hb e => hAx (e ▸ hb)))
              · rw [List.take_succ_eq_append_getElem hlt, List.map_append]
                have hr1 := (hrows.out.gr hg3.out).gr ((Kp.refl _ _).alloc (.cells #[.slice (some ⟨rb, 0, none⟩) k k] 37))
                have hB3 : Blk (wr.alloc (.cells #[.slice (some ⟨rb, 0, none⟩) k k] 37)) rb 3 (cellsI (rowN l (states l) k (states l)[q])) := hrb3.out.alloc _
                have hro := Own.ofI (base := B0) hB3 (by have := Hrbe.out; omega) (by rw [rowN_len]; omega)
                rw [rowN_len] at hro
                have hr2 := hr1.snoc (c := k) (A := some ⟨rb, 0, none⟩) (row := rowN l (states l) k (states l)[q]) (by rw [rowN_len]; exact hro)
                rw [rowN_len] at hr2
                have hr3 := hr2.kp hk4.out (fun b cs h1 h2 h3 => by
                  obtain ⟨cs', hc'⟩ := Own.blk Hnv3.out h3
                  exact absurd (Blk.type_inj h2 hc') (by decide))
                exact Lib.hid (hr3.kp (Kp.set1 _ _ _ _) (fun b cs h1 h2 h3 => by omega))
              · have hbb := hxb4.set_ 0 (.slice A4 (ds ++ [((some ⟨rb, 0, none⟩, k, k) : SD)]).length c4)
                rw [List.length_append] at hbb ⊢
                exact Lib.hid hbb
              · exact Lib.hid (Kp.new (Kp.new (Kp.new hk2.out (hg3.out.alloc _) (fun i h1 h2 => h2.elim)) hk4.out (fun i h1 h2 => by have := (Own.lt hnv.out h2).1; omega)) (Kp.set1 _ _ _ _) (fun i h1 h2 => h2))
        · obtain rfl : q = (states l).length := by omega
          have hd' := hrows.out.1
          simp only [List.take_length, List.length_map] at hd'
          have hrw := hrows.out
          rw [List.take_length] at hrw
          have hvat := Own.at_ encV_ok hnv.out
          go_wp2
          go_ret
          refine ⟨_, rfl, ⟨NA, NC, ds, ?_, hvat, hrw.1, fun i h1 h2 => ⟨(hrw.2 i h1 h2).1, ?_⟩⟩, hg2.out⟩
          · rw [hxc]
            simp [tableN, hd']
          · have h3 := (hrw.2 i h1 h2)
            have h4 := h3.2
            rw [h3.1] at h4
            exact Own.at_ encI_ok h4
end Go.Proofs.Ytffghamcggadcaa
