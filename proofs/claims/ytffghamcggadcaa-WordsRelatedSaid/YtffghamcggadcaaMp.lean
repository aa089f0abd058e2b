/- Maps of the call's own: rules to bools (what is known), in plain words. -/
import Derived.Test.YtffghamcggadcaaIn
import Derived.Maps.OwnOps
import Derived.Maps.OwnSet
import Derived.Maps.RangeWalk
import Derived.Maps.Views
import Derived.DeepKeys4
namespace Go.Proofs.Ytffghamcggadcaa
open Go.RowKit Go.Maps
set_option linter.unusedVariables false
set_option linter.unusedSimpArgs false
attribute [local go_sem] B_size B_toList B_append B_extract B_get take_rest
abbrev DW := DataW Unit
theorem laidOut' : laidOutB Try.prog = true := by kernel_rfl
theorem keyedR : Keyed Try.prog 24 := Keyed.of_law (deep_law_laid laidOut' (m := 2) (by omega) (of_decide_eq_true (by kernel_rfl)) (by kernel_rfl) (by rw [Try.underlying24]))
def litR (r : Rule) : Lit := .string (keyBytes [.string r.1, .string r.2])
def valR (r : Rule) : Value := .agg #[.string (B r.1), .string (B r.2)]
theorem keyLitsS (d : Nat) (cs : List Value) : (Try.prog).keyLits (d + 1) 9 cs = match cs with | [.string a] => if a.size ≤ maxLen then some [.string a.data.toList] else none | _ => none := by
  have h1 : Try.prog.underlying 9 = some .string := Try.underlying9
  unfold Program.keyLits
  rw [h1]
  rcases cs with _ | ⟨x, _ | ⟨y, cs⟩⟩
  · rfl
  · cases x <;> rfl
  · cases x <;> rfl
theorem cellsR : Try.prog.cellsOf 24 = 2 := by kernel_rfl
theorem cellsS : Try.prog.cellsOf 9 = 1 := by kernel_rfl
theorem keyLitsR (d : Nat) (x y : Value) : (Try.prog).keyLits (d + 2) 24 [x, y] = match x, y with | .string a, .string b => if a.size ≤ maxLen ∧ b.size ≤ maxLen then some [.string a.data.toList, .string b.data.toList] else none | _, _ => none := by
  unfold Program.keyLits
  rw [Try.underlying24]
  simp only [cellsR, cellsS, List.mapM_cons, List.mapM_nil, keyLitsS]
  cases x <;> cases y <;> simp
  rename_i a b
  by_cases ha : a.size ≤ maxLen <;> by_cases hb : b.size ≤ maxLen <;> simp [ha, hb]
theorem wideR : (match Try.prog.underlying 24 with | some (.array _ _) | some (.struct _) => true | _ => false) = true := by rw [Try.underlying24]
theorem keyR (r : Rule) (h1 : r.1.length ≤ 1000000000) (h2 : r.2.length ≤ 1000000000) : keyOf Try.prog 24 (valR r) = some (litR r) := by
  obtain ⟨d, hd⟩ : ∃ d, Try.prog.types.size = d + 1 := ⟨Try.prog.types.size - 1, by kernel_rfl⟩
  have hk : Try.prog.keyType 24 = true := by kernel_rfl
  have hf : (valR r).formed Try.prog 24 = true := by simp [valR, Value.formed, Try.underlying24, cellsR]
  unfold keyOf
  rw [Try.underlying24]
  simp only [hk, hf, Bool.and_self, if_true]
  have e : (valR r).cells.toList = [.string (B r.1), .string (B r.2)] := rfl
  rw [e, hd, keyLitsR]
  simp only [B_size, B_toList]
  rw [if_pos ⟨by simp only [maxLen]; omega, by simp only [maxLen]; omega⟩]
  rfl
set_option maxRecDepth 20000 in
theorem keyR_inv {v : Value} {l : Lit} (h : keyOf Try.prog 24 v = some l) : ∃ r : Rule, v = valR r ∧ l = litR r := by
  obtain ⟨xs, L, rfl, h1, rfl⟩ := keyOf_top wideR h
  obtain ⟨d, hd⟩ : ∃ d, Try.prog.types.size = d + 1 := ⟨Try.prog.types.size - 1, by kernel_rfl⟩
  have hlen : xs.toList.length = 2 := by
    unfold keyOf at h
    rw [Try.underlying24] at h
    have hf : (Value.agg xs).formed Try.prog 24 = true := by
      cases hc : (Value.agg xs).formed Try.prog 24
      · simp [hc] at h
      · rfl
    simpa [Value.formed, Try.underlying24, cellsR] using hf
  obtain ⟨x, y, hxy⟩ : ∃ x y, xs.toList = [x, y] := by
    match xs.toList, hlen with
    | [x, y], _ => exact ⟨x, y, rfl⟩
  rw [hxy, hd, keyLitsR] at h1
  have hxs : xs = #[x, y] := by rw [← hxy]
  subst hxs
  cases x <;> cases y <;> simp at h1
  rename_i a b
  obtain ⟨_, rfl⟩ := h1
  exact ⟨(a.data.toList, b.data.toList), by simp [valR, B], rfl⟩
def Small (r : Rule) : Prop := r.1.length ≤ 1000000000 ∧ r.2.length ≤ 1000000000
theorem litR_inj {r s : Rule} (hr : Small r) (hs : Small s) (h : litR r = litR s) : r = s := by
  have h1 := keyR r hr.1 hr.2
  have h2 := keyR s hs.1 hs.2
  rw [h] at h1
  have h3 := keyedR.inj h1 h2
  simp only [valR, Value.agg.injEq, Array.mk.injEq, List.cons.injEq, Value.string.injEq, and_true] at h3
  refine Prod.ext ?_ ?_
  · rw [← B_toList r.1, h3.1, B_toList]
  · rw [← B_toList r.2, h3.2, B_toList]
noncomputable abbrev RB := plainElem (H := Unit) Try.prog 4
theorem RB_mk (x : Bool) : RB (.bool x) = some (.lit (.bool x), []) := plainElem_bool Try.underlying4 x
theorem plain_bool_inv {P : Program} {e : TypeId} (he : P.underlying e = some .bool) {v : Value} {z : DW × List MemPlace} (h : plainElem P e v = some z) : ∃ x, v = .bool x ∧ z = (.lit (.bool x), []) := by
  unfold plainElem at h
  rw [he] at h
  cases v <;> simp at h
  exact ⟨_, rfl, h.symm⟩
theorem RB_inv {v : Value} {x : Bool} {ps : List MemPlace} (h : RB v = some (.lit (.bool x), ps)) : v = .bool x := by
  obtain ⟨y, rfl, h2⟩ := plain_bool_inv Try.underlying4 h
  simp at h2
  rw [h2.1]
theorem RB_bool {v : Value} {y : DW × List MemPlace} (h : RB v = some y) : ∃ x, v = .bool x ∧ y.1 = .lit (.bool x) := by
  obtain ⟨x, rfl, h2⟩ := plain_bool_inv Try.underlying4 h
  exact ⟨x, rfl, by rw [h2]⟩
def Reads (D : DW) (S : Rule → Bool) : Prop := (∀ r, Small r → D.atKey (litR r) (.lit (.bool false)) = .lit (.bool (S r))) ∧ ∀ kl, has D kl = true → ∃ r, Small r ∧ kl = litR r
/-- block b is a map that knows the rules of S -/
def KM (w : World) (b n : Nat) (S : Rule → Bool) : Prop := ∃ D : DW, w.ownsMap Try.prog 24 RB b n D ∧ Reads D S
theorem KM.made (w : World) : KM (w.alloc (.map #[] 0)) w.heap.size 0 (fun _ => false) := ⟨.map [], World.ownsMap_made w _ _ _, fun r _ => rfl, fun kl h => by cases h⟩
theorem KM.kp {S : Nat → Prop} {w w' : World} {b n : Nat} {f : Rule → Bool} (h : KM w b n f) (hk : Kp S w w') (hs : ¬ S b) : KM w' b n f := by
  obtain ⟨D, ho, hr⟩ := h
  have hlt := ho.lt
  obtain ⟨es, clock, hb, F, hs', hD⟩ := ho
  exact ⟨D, ⟨es, clock, (hk.block b hlt hs).trans hb, F, hs', hD⟩, hr⟩
theorem KM.gr {w w' : World} {b n : Nat} {f : Rule → Bool} (h : KM w b n f) (hk : Gr w w') : KM w' b n f := h.kp hk fun h => h
theorem KM.lt {w : World} {b n : Nat} {f : Rule → Bool} (h : KM w b n f) : b < w.heap.size := by obtain ⟨D, ho, _⟩ := h; exact ho.lt
theorem KM.mono {w : World} {b n m : Nat} {f : Rule → Bool} (h : KM w b n f) (hm : n ≤ m) : KM w b m f := by obtain ⟨D, ho, hr⟩ := h; exact ⟨D, ho.mono hm, hr⟩
theorem Kp.of_grown {w w' : World} {b : Nat} (h : w.grownBy w' (some b)) : Kp (· = b) w w' := ⟨h.os, h.tape, h.output, h.size, fun k hk hs => h.block k hk (fun e => hs (by injection e))⟩
theorem Gr.of_grown {w w' : World} (h : w.grownBy w' none) : Gr w w' := ⟨h.os, h.tape, h.output, h.size, fun k hk hs => h.block k hk (fun e => by cases e)⟩
theorem KM.lookup {w : World} {b n : Nat} {f : Rule → Bool} (h : KM w b n f) (r : Rule) (hr : Small r) : (Instr.lookup 90 (.map (some b)) (valR r) false).run Try.prog w = .ok (.bool (f r)) w := by
  obtain ⟨D, ho, hrd⟩ := h
  obtain ⟨v, ps, hrun, hv⟩ := ho.lookup keyedR Try.underlying90 (z := .bool false) (by kernel_rfl) (RB_mk false) (keyR r hr.1 hr.2)
  rw [hrd.1 r hr] at hv
  rw [hrun, RB_inv hv]
theorem KM.update {w : World} {b n : Nat} {f : Rule → Bool} (h : KM w b n f) (hn : n < 1000000000) (r : Rule) (hr : Small r) (x : Bool) :
    ∃ w', (Instr.mapUpdate 90 (.map (some b)) (valR r) (.bool x)).run Try.prog w = .ok () w' ∧ KM w' b (n + 1) (fun s => if s = r then x else f s) ∧ Kp (· = b) w w' := by
  obtain ⟨D, ho, hrd⟩ := h
  obtain ⟨w', hrun, ho', hg⟩ := ho.update keyedR Try.underlying90 (by simp only [maxLen]; omega) (keyR r hr.1 hr.2) (RB_mk x)
  refine ⟨w', hrun, ⟨_, ho', fun s hs => ?_, fun kl hkl => ?_⟩, Kp.of_grown hg⟩
  rotate_left
  · by_cases e : kl = litR r
    · exact ⟨r, hr, e⟩
    · rw [has_put_other e] at hkl
      exact hrd.2 kl hkl
  by_cases e : s = r
  · subst e
    show _ = DataW.lit (Lit.bool (if s = s then x else f s))
    rw [if_pos rfl]
    exact atKey_put_same ho.isMap (keyedR.key (keyR s hs.1 hs.2)) _ _
  · show _ = DataW.lit (Lit.bool (if s = r then x else f s))
    rw [if_neg e, atKey_put_other (fun h => e (litR_inj hs hr h))]
    exact hrd.1 s hs
theorem wpl_store {P : Program} {w w' : World} {ops : Array Oper} {rest : List Oper} {o : Oper} {a : Act} {Q : Exit → Act → World → Prop} (hgd : o.guard = none) (m x v : Operand) (t : TypeId)
    (ho : o.op = Op.mapUpdate t m x v) (vm vx vv : Value) (hm : a.eval m = vm) (hx : a.eval x = vx) (hv : a.eval v = vv) (hrun : (Instr.mapUpdate t vm vx vv).run P w = .ok () w')
    (h : wpList P ops Q rest (a.put o.dst undef) w') : wpList P ops Q (o :: rest) a w := by
  refine wpList_plain hgd fun K hK => ?_
  unfold Oper.wp
  simp [execOp, ho, hm, hx, hv, hrun, Result.andThen]
  exact hK _ _ h
end Go.Proofs.Ytffghamcggadcaa
