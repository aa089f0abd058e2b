/- Contract: spread. -/
import Derived.Test.YtffghamcggadcaaA3
namespace Go.Proofs.Ytffghamcggadcaa
open Go.RowKit Go.Maps
set_option linter.unusedVariables false
set_option linter.unusedSimpArgs false
attribute [local go_sem] B_size B_toList B_append B_extract B_get take_rest
set_option maxRecDepth 20000 in
theorem run_add (x y : Int) (hx : 0 ≤ x) (hy : 0 ≤ y) (hx1 : x ≤ 4611686018427387904) (hy1 : y ≤ 4611686018427387904) (w : World) :
    (callFunc 45 #[.int .u64 x, .int .u64 y, .int .u64 0]).run Try.prog w = .ok (.value (.tuple #[.int .u64 (x + y), .int .u64 0])) w := by
  rw [run_callFunc_extern Try.func45 (by kernel_rfl) (by kernel_rfl) (by kernel_rfl) (e := add64Entry) (by kernel_rfl), run_add64 x y 0 hx hy (by omega) (by omega)]
  simp only [Result.andThen]
  rw [show (x + y + 0) % 18446744073709551616 = x + y from by omega, show (x + y + 0) / 18446744073709551616 = 0 from by omega]
/-- counts within the limit -/
def Cap (l : List Int) : Prop := ∀ n ∈ l, 0 ≤ n ∧ n ≤ 4611686018427387904
theorem Cap.set {l : List Int} (h : Cap l) (i : Nat) {x : Int} (hx : 0 ≤ x ∧ x ≤ 4611686018427387904) : Cap (l.set i x) := fun n hn => by
  rcases List.mem_or_eq_of_mem_set hn with h1 | rfl
  · exact h n h1
  · exact hx
theorem Cap.get {l : List Int} (h : Cap l) {i : Nat} (hi : i < l.length) : 0 ≤ l[i] ∧ l[i] ≤ 4611686018427387904 := h _ (List.getElem_mem hi)
theorem Cap.rep (n : Nat) : Cap (List.replicate n 0) := fun x hx => by rw [(List.mem_replicate.1 hx).2]; omega
theorem Cap.start (n : Nat) : Cap (startN n) := (Cap.rep n).set 0 (by omega)
theorem spreadRow_cap {n : Int} (hn : 0 ≤ n) : ∀ {row out out' : List Int}, Cap out → spreadRow n row out = some out' → Cap out' ∧ out'.length = out.length
  | [], out, out', hc, h => by simp only [spreadRow, Option.some.injEq] at h; subst h; exact ⟨hc, rfl⟩
  | t :: row, out, out', hc, h => by
    unfold spreadRow at h
    split at h
    · exact spreadRow_cap hn hc h
    · split at h
      · cases h
      · have h0 : 0 ≤ out.getD t.toNat 0 := by
          rw [List.getD_eq_getElem?_getD]
          cases hg : out[t.toNat]? with
          | none => simp
          | some x => exact (hc x (List.mem_of_getElem? hg)).1
        have h1 := spreadRow_cap hn (hc.set t.toNat (x := out.getD t.toNat 0 + n) (by omega)) h
        rw [List.length_set] at h1
        exact h1
theorem spreadN_cap : ∀ {tab : List (List Int)} {now out out' : List Int}, Cap now → Cap out → spreadN tab now out = some out' → Cap out' ∧ out'.length = out.length
  | [], now, out, out', _, hc, h => by simp [spreadN] at h; subst h; exact ⟨hc, rfl⟩
  | row :: tab, [], out, out', _, hc, h => by simp [spreadN] at h; subst h; exact ⟨hc, rfl⟩
  | row :: tab, n :: now, out, out', hn, hc, h => by
    unfold spreadN at h
    cases h1 : spreadRow n row out with
    | none => rw [h1] at h; cases h
    | some o1 =>
      rw [h1] at h
      obtain ⟨a1, a2⟩ := spreadRow_cap (hn n List.mem_cons_self).1 hc h1
      obtain ⟨b1, b2⟩ := spreadN_cap (fun x hx => hn x (List.mem_cons_of_mem _ hx)) a1 h
      exact ⟨b1, b2.trans a2⟩
theorem spread_cap {tab : List (List Int)} {now out : List Int} (hc : Cap now) (h : spread tab now = some out) : Cap out ∧ out.length = now.length := by
  unfold spread at h
  obtain ⟨h1, h2⟩ := spreadN_cap hc (Cap.rep _) h
  exact ⟨h1, by simpa using h2⟩
/-- every row's entries are states, or -1; the rows are short -/
def TabOk (tab : List (List Int)) : Prop := tab.length ≤ 2000 ∧ ∀ row ∈ tab, row.length ≤ 8 ∧ ∀ t ∈ row, -1 ≤ t ∧ t < tab.length
def SpreadV (w : World) (r : Option (List Int)) (e : Ending) (w' : World) : Prop :=
  (match r with
   | none => e = .returned (.tuple #[.slice none 0 0, .bool false])
   | some out => ∃ A c, e = .returned (.tuple #[.slice A out.length c, .bool true]) ∧ OwnI w' w.heap.size (.slice A out.length c) out) ∧ Gr w w'
theorem spreadN_step (tab : List (List Int)) (now out : List Int) (i : Nat) (h : i < tab.length) (h' : i < now.length) :
    spreadN (tab.drop i) (now.drop i) out = match spreadRow now[i] tab[i] out with | none => none | some o => spreadN (tab.drop (i + 1)) (now.drop (i + 1)) o := by
  rw [List.drop_eq_getElem_cons h, List.drop_eq_getElem_cons h']
  rfl
theorem spreadRow_step (n : Int) (row out : List Int) (j : Nat) (h : j < row.length) :
    spreadRow n (row.drop j) out = if row[j] < 0 then spreadRow n (row.drop (j + 1)) out else
      if 4611686018427387904 < out.getD row[j].toNat 0 + n then none else spreadRow n (row.drop (j + 1)) (out.set row[j].toNat (out.getD row[j].toNat 0 + n)) := by
  rw [List.drop_eq_getElem_cons h]
  rfl
set_option maxHeartbeats 4000000 in
set_option maxRecDepth 20000 in
theorem spread_any (tab : List (List Int)) (now : List Int) (a : Addr) (A : Option Addr) (c : Nat) (w : World) (ht : TabOk tab) (hn : now.length = tab.length) (hc : Cap now) (htab : TabAt w a tab) (hl : IAt w A now) :
    Calls Try.prog 28 #[.pointer (some a), .slice A now.length c] w (SpreadV w (spread tab now)) := by
  have Hl := Lib.hid hl
  have Ht := Lib.hid ht
  have Hc := Lib.hid hc
  have Hn := Lib.hid hn
  have hnl : now.length ≤ 2000 := by have := ht.1; omega
  obtain ⟨NA, NC, ds, hx00, hv, hdl, hrows⟩ := htab
  have Hx0 := Lib.hid hx00
  have Hv := Lib.hid hv
  have Hdl := Lib.hid hdl
  have Hrows := Lib.hid hrows
  clear hl ht hc hn hx00 hv hdl hrows
  go_enter Try.func28, Try.ntmps28
  go_wp2_with (refine wpl_make rfl _ _ rfl now.length rfl rfl (by omega) ?_; intro w1 hob hg1 hos; replace hob := Lib.hid hob; replace hg1 := Lib.hid hg1)
  obtain ⟨ob, hobe⟩ : ∃ ob, ob = w.heap.size := ⟨_, rfl⟩
  rw [← hobe] at hob hos ⊢
  have Hobe := Lib.hid hobe
  clear hobe
  go_loopw [18] (fun vi wr => ∃ (i : Nat) (out : List Int), i ≤ now.length ∧ vi = .int .i64 i ∧ Hid (spread tab now = spreadN (tab.drop i) (now.drop i) out) ∧ Hid (out.length = now.length) ∧ Hid (Cap out) ∧ Hid (Blk wr ob 3 (cellsI out)) ∧ Hid (Kp (· = ob) w1 wr)) (fun vi _ => now.length - (intOf vi).toNat)
  case atStart => exact ⟨0, List.replicate now.length 0, by omega, rfl, rfl, Lib.hid (by simp), Lib.hid (Cap.rep _), hob, Lib.hid (Kp.refl _ _)⟩
  case round =>
    obtain ⟨i, out, hi, rfl, hsp, hol, hco, hbo, hk⟩ := hrel
    have hg := Lib.hid (Gr.kp hg1.out hk.out (fun i h1 h2 => by have := Hobe.out; omega))
    by_cases hlt : i < now.length
    · obtain ⟨ad, rfl, h0⟩ := IAt.get (Hl.out.gr hg.out) hlt
      obtain ⟨hn0, hn1⟩ := Hc.out.get hlt
      have hx0 := Gr.cell hg.out Hx0.out
      have hit : i < tab.length := by have := Hn.out; omega
      have hid : i < ds.length := by have := Hdl.out; omega
      obtain ⟨ad2, rfl, hx1⟩ := VAt.get (Hv.out.gr hg.out) hid
      obtain ⟨hrl, hrow⟩ := Hrows.out i hid hit
      have hrk := Ht.out.2 tab[i] (List.getElem_mem hit)
      have hr8 := hrk.1
      have Hrk := Lib.hid hrk.2
      have Hrow := Lib.hid hrow
      rw [hrl] at hx1
      have hitab : i < tab.length := hit
      have hst := Lib.hid (spreadN_step tab now out i hit hlt)
      clear hrk hrow hrl
      have hit2 : tab.length = now.length := by have := Hn.out; omega
      obtain ⟨wq, rfl⟩ : ∃ wq : World, wq = wr := ⟨_, rfl⟩
      generalize hD : ds[i].1 = RA at hx1 Hrow
      obtain ⟨row, hrw⟩ : ∃ row, row = tab[i] := ⟨_, rfl⟩
      rw [← hrw] at hx1 Hrow hr8 Hrk hst
      have Hrw := Lib.hid hrw
      have HD := Lib.hid hD
      clear hrw hD
      obtain ⟨n, hnv⟩ : ∃ n, n = now[i] := ⟨_, rfl⟩
      rw [← hnv] at h0 hn0 hn1 hst
      have Hnv := Lib.hid hnv
      clear hnv
      go_wp2
      go_loopw [31] (fun vj wr => ∃ (j : Nat) (o : List Int), j ≤ row.length ∧ vj = .int .i64 j ∧ Hid (spreadRow n row out = spreadRow n (row.drop j) o) ∧ Hid (o.length = now.length) ∧ Hid (Cap o) ∧ Hid (Blk wr ob 3 (cellsI o)) ∧ Hid (Kp (· = ob) wq wr)) (fun vj _ => row.length - (intOf vj).toNat)
      case atStart => exact ⟨0, out, by omega, rfl, rfl, hol, hco, hbo, Lib.hid (Kp.refl _ _)⟩
      case round =>
        clear hol hco hbo h0 hx0 hx1
        obtain ⟨j, o, hj, rfl, hsr, hol, hco, hbo, hk2⟩ := hrel
        by_cases hltj : j < row.length
        · have hg2 := Lib.hid (Gr.kp hg1.out (hk.out.trans hk2.out) (fun i h1 h2 => by have := Hobe.out; omega))
          obtain ⟨ra, rfl, hr0⟩ := IAt.get (Hrow.out.gr hg2.out) hltj
          have hrj := Hrk.out row[j] (List.getElem_mem hltj)
          have hsj := spreadRow_step n row o j hltj
          obtain ⟨t, ht⟩ : ∃ t, t = row[j] := ⟨_, rfl⟩
          rw [← ht] at hr0 hrj hsj
          have Hsj := Lib.hid hsj
          clear ht hsj
          by_cases htn : t < 0
          · rw [if_pos htn] at Hsj
            go_wp2
            refine ⟨⟨j + 1, o, by omega, by go_num, Lib.hid (hsr.out.trans Hsj.out), hol, hco, hbo, hk2⟩, by simp [intOf]; omega⟩
          · obtain ⟨tn, rfl⟩ : ∃ tn : Nat, t = tn := ⟨t.toNat, by omega⟩
            have hto : tn < o.length := by have := hol.out; omega
            have hto2 : tn < now.length := by omega
            have hx := (hbo.out.cell tn).trans (cellsI_get o tn hto)
            have hxf := hbo.out.frozen tn
            obtain ⟨hxc0, hxc1⟩ := hco.out.get hto
            rw [if_neg (by omega), Int.toNat_natCast, List.getD_eq_getElem?_getD, List.getElem?_eq_getElem hto, Option.getD_some] at Hsj
            obtain ⟨x, hxv⟩ : ∃ x, x = o[tn] := ⟨_, rfl⟩
            rw [← hxv] at hx hxc0 hxc1 Hsj
            have hadd := run_add x n hxc0 hn0 hxc1 hn1
            clear hxv hto
            by_cases hbig : 4611686018427387904 < x + n
            · rw [if_pos hbig] at Hsj
              have Hnone := Lib.hid (show spread tab now = none from by rw [hsp.out, hst.out, hsr.out, Hsj.out])
              clear hsp hst hsr Hsj
              go_wp2
              go_ret2
              refine ⟨?_, hg2.out⟩
              rw [Hnone.out]
              rfl
            · rw [if_neg hbig] at Hsj
              go_wp2
              refine ⟨⟨j + 1, o.set tn (x + n), by omega, by go_num, Lib.hid (hsr.out.trans Hsj.out), Lib.hid (by rw [List.length_set]; exact hol.out), Lib.hid (hco.out.set tn (by omega)), ?_, Lib.hid (hk2.out.setCell (fun _ => rfl) _)⟩, by simp [intOf]; omega⟩
              rw [← cellsI_set]
              exact Lib.hid (hbo.out.set_ tn _)
        · have hsj := Lib.hid (show spreadRow n row out = some o from by rw [hsr.out, List.drop_eq_nil_of_le (by omega)]; rfl)
          go_wp2
          refine ⟨⟨i + 1, o, by omega, by go_num, Lib.hid ?_, hol, hco, hbo, Lib.hid (hk.out.trans hk2.out)⟩, by simp [intOf]; omega⟩
          rw [hsp.out, hst.out, hsj.out]
    · have hlast := Lib.hid (show spread tab now = some out from by
        rw [hsp.out, List.drop_eq_nil_of_le (by have := Hn.out; omega)]
        cases now.drop i <;> rfl)
      go_wp2
      go_ret2
      refine ⟨?_, hg.out⟩
      rw [hlast.out]
      have hown := Own.ofI (base := w.heap.size) hbo.out (by have := Hobe.out; omega) (by have := hol.out; omega)
      refine ⟨some ⟨ob, 0, none⟩, now.length, ?_, ?_⟩
      · rw [hol.out]; rfl
      · rw [hol.out] at hown ⊢; exact hown
end Go.Proofs.Ytffghamcggadcaa
