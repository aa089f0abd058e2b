/- Regions whose order of evaluation is open: one walk in a planned order serves every order, where quiet operations may come early and loud ones come one by one. Conditions: every operation keeps the relation G, quiet ones the stronger relation G0. -/
import Derived.Deep.Quiet
import Derived.WalkKit
namespace Go.Proofs.Ytffghamcggadcaa
section
variable {P : Program} {ops : Array Oper} {md : Region.Mode} {Q : Exit → Act → World → Prop} {G0 G : World → World → Prop} {E : Act → World → Prop}

/-- In state 'a', in every world that G leads to from 'w', the operation leaves 'v' and a world that G0 leads to. -/
def YieldsMix (P : Program) (ops : Array Oper) (G0 G : World → World → Prop) (o : Oper) (v : Value) (a : Act) (w : World) : Prop :=
  (Region.wanted o (yielded ops a.tmps) = true ∧ ∀ w', G w w' → o.quietAt P a (fun w'' => G0 w' w'') w' v) ∨
  (Region.wanted o (yielded ops a.tmps) = false ∧ v = undef)

theorem YieldsMix.of_same {o : Oper} {v : Value} {a a' : Act} {w : World} (hy : YieldsMix P ops G0 G o v a w) (he : execOp a'.eval o = execOp a.eval o)
    (hw : Region.wanted o (yielded ops a'.tmps) = Region.wanted o (yielded ops a.tmps)) : YieldsMix P ops G0 G o v a' w := by
  unfold YieldsMix Oper.quietAt at *
  rw [he, hw]
  exact hy

theorem YieldsMix.later (ht : ∀ a b c, G a b → G b c → G a c) {o : Oper} {v : Value} {a : Act} {w w1 : World} (hy : YieldsMix P ops G0 G o v a w) (h : G w w1) : YieldsMix P ops G0 G o v a w1 :=
  hy.imp (fun ⟨h1, h2⟩ => ⟨h1, fun w' hw => h2 w' (ht _ _ _ h hw)⟩) id

/-- Whatever order is picked from here on, in whatever world that G0 leads to. -/
def wpMix (P : Program) (md : Region.Mode) (ops : Array Oper) (Q : Exit → Act → World → Prop) (G0 G : World → World → Prop) : Nat → Array Bool → Act → World → Prop
  | 0, listed, a, w => ∀ w', G0 w w' → Region.ready md ops listed = [] ∧ Q .normal a w'
  | fuel + 1, listed, a, w => ∀ w', G0 w w' →
    (Region.ready md ops listed = [] → Q .normal a w') ∧
    ∀ i ∈ Region.ready md ops listed, wpOp P ops Q i (fun a' w'' => G w' w'' ∧ wpMix P md ops Q G0 G fuel (listed.setIfInBounds i true) a' w'') a w'

theorem wpMix.later (ht0 : ∀ a b c, G0 a b → G0 b c → G0 a c) : ∀ {fuel : Nat} {listed : Array Bool} {a : Act} {w w1 : World}, wpMix P md ops Q G0 G fuel listed a w → G0 w w1 → wpMix P md ops Q G0 G fuel listed a w1
  | 0, _, _, _, _, h, hg => fun w' hw => h w' (ht0 _ _ _ hg hw)
  | _ + 1, _, _, _, _, h, hg => fun w' hw => h w' (ht0 _ _ _ hg hw)

theorem wpAny_of_mix (hr0 : ∀ w, G0 w w) : ∀ (fuel : Nat) (listed : Array Bool) (a : Act) (w : World), wpMix P md ops Q G0 G fuel listed a w → wpAny P md ops Q fuel listed a w
  | 0, _, _, w, h => h w (hr0 w)
  | fuel + 1, _, _, w, h => ⟨(h w (hr0 w)).1, fun i hi => wpOp_mono (fun a' w' h' => wpAny_of_mix hr0 fuel _ a' w' h'.2) ((h w (hr0 w)).2 i hi)⟩

theorem YieldsMix.wpOp {i : Nat} {o : Oper} {v : Value} {a : Act} {w w' : World} (hi : ops[i]? = some o) (hr0 : ∀ w, G0 w w) (hy : YieldsMix P ops G0 G o v a w) (hw : G w w')
    {K : Act → World → Prop} (h : ∀ w'', G0 w' w'' → K (a.put o.dst v) w'') : wpOp P ops Q i K a w' := by
  unfold Go.wpOp
  simp only [hi]
  rcases hy with ⟨h1, h2⟩ | ⟨h1, rfl⟩
  · simp only [h1, if_true]
    left
    have h3 := h2 w' hw
    unfold Oper.quietAt at h3
    unfold Oper.wp
    generalize (execOp a.eval o).run P w' = r at *
    cases r with
    | ok n w1 =>
      cases n <;> simp only [Oper.quietUpon] at h3 <;> simp only [Oper.upon]
      case value u => obtain ⟨e1, e2⟩ := h3; rw [e1, e2]; exact h _ (hr0 _)
      case skip => obtain ⟨e1, e2⟩ := h3; rw [e1, ← e2]; exact h _ (hr0 _)
      case enter f args => obtain ⟨e1, hc⟩ := h3; rw [e1]; exact hc.mono fun e w'' ⟨he, hw''⟩ => by subst he; exact h _ hw''
    | halt x w1 => simp only [Oper.quietUpon] at h3
  · simp only [h1, Bool.false_eq_true, if_false]; exact h _ (hr0 _)

/-- One operation 'oj', apart from 'oi'. -/
theorem wpOp_putMix (ht : ∀ a b c, G a b → G b c → G a c) {j : Nat} {oi oj : Oper} {v : Value} (hj : ops[j]? = some oj) (hap : oi.apart ops oj = true)
    (hsi : ∀ cs b, oi.op ≠ .select cs b) (hsj : ∀ cs b, oj.op ≠ .select cs b)
    (hQ : ∀ c a w, Q (.panic c) (a.put oi.dst v) w → Q (.panic c) a w) {K : Act → World → Prop} {a : Act} {w w0 : World} (h0 : G w w0)
    (hy : YieldsMix P ops G0 G oi v a w) (h : wpOp P ops Q j (fun a' w' => G w0 w' ∧ K a' w') (a.put oi.dst v) w0) :
    wpOp P ops Q j (fun a' w' => G w0 w' ∧ YieldsMix P ops G0 G oi v a' w' ∧ K (a'.put oi.dst v) w') a w0 := by
  obtain ⟨h1, h2, h3⟩ := Oper.apart_spec hap
  have keep : ∀ (a : Act), YieldsMix P ops G0 G oi v a w → ∀ u w1, G w0 w1 → YieldsMix P ops G0 G oi v (a.put oj.dst u) w1 := fun a hy u w1 hw1 =>
    (hy.of_same (execOp_put oi hsi a oj.dst u h3) (wanted_put oi a oj.dst u h3)).later ht (ht _ _ _ h0 hw1)
  have keepD : ∀ d, YieldsMix P ops G0 G oi v { a with defers := d :: a.defers } w := fun d => hy.of_same rfl rfl
  unfold wpOp at *
  simp only [hj] at *
  rw [wanted_put oj a oi.dst v h1] at h
  split
  · rename_i hw
    simp only [hw, if_true] at h
    rcases h with h | ⟨hasks, hlets⟩
    case inr => exact .inr ⟨by unfold Oper.asks at *; rw [execOp_put oj hsj a oi.dst v h1] at hasks; exact hasks, hlets⟩
    refine .inl ?_
    unfold Oper.wp at *
    rw [execOp_put oj hsj a oi.dst v h1] at h
    generalize (execOp a.eval oj).run P w0 = r at *
    cases r with
    | ok n w' =>
      cases n <;> simp only [Oper.upon] at h ⊢
      case value u => exact ⟨h.1, keep a hy u _ h.1, by rw [← Act.put_comm a v u h2]; exact h.2⟩
      case skip => exact ⟨h.1, keep a hy _ _ h.1, by rw [← Act.put_comm a v undef h2]; exact h.2⟩
      case defer d =>
        refine ⟨h.1, keep _ (keepD d) _ _ h.1, ?_⟩
        rw [← Act.put_comm _ v undef h2, ← Act.put_defers]
        exact h.2
      case enter f args =>
        refine Calls.mono h fun e w'' he => ?_
        cases e with
        | returned u => exact ⟨he.1, keep a hy u _ he.1, by rw [← Act.put_comm a v u h2]; exact he.2⟩
        | panicked c => exact hQ _ _ _ he
        | outgrown => exact he
      case row row args => exact Rows.mono h fun u w'' he => ⟨he.1, keep a hy u _ he.1, by rw [← Act.put_comm a v u h2]; exact he.2⟩
    | halt x w' =>
      cases x <;> simp only [Oper.upon] at h ⊢
      case panic u => exact hQ _ _ _ h
  · rename_i hw
    simp only [hw] at h
    exact ⟨h.1, keep a hy _ _ h.1, by rw [← Act.put_comm a v undef h2]; exact h.2⟩

/-- A quiet operation that may come up now may be taken first. -/
theorem wpMix_first (hr0 : ∀ w, G0 w w) (ht0 : ∀ a b c, G0 a b → G0 b c → G0 a c) (h01 : ∀ a b, G0 a b → G a b) (ht : ∀ a b c, G a b → G b c → G a c)
    {i : Nat} {oi : Oper} {v : Value} (hi : ops[i]? = some oi) (hsel : ∀ (j : Nat) (o : Oper) cs b, ops[j]? = some o → o.op ≠ .select cs b)
    (hQ : ∀ c a w, Q (.panic c) (a.put oi.dst v) w → Q (.panic c) a w) :
    ∀ (fuel : Nat) (listed : Array Bool) (a : Act) (w : World),
      (∀ j oj, ops[j]? = some oj → j ≠ i → listed.getD j true = false → (∀ e ∈ oj.after, Region.binds md e = true → e.on ≠ i) → oi.apart ops oj = true) →
      i ∈ Region.ready md ops listed → YieldsMix P ops G0 G oi v a w →
      wpMix P md ops Q G0 G fuel (listed.setIfInBounds i true) (a.put oi.dst v) w → wpMix P md ops Q G0 G (fuel + 1) listed a w := by
  intro fuel
  induction fuel with
  | zero =>
    intro listed a w _ hrd hy H w' hw
    refine ⟨fun h => (by rw [h] at hrd; cases hrd), fun j hj => ?_⟩
    by_cases hji : j = i
    · subst hji; exact hy.wpOp hi hr0 (h01 _ _ hw) fun w'' hw'' => ⟨h01 _ _ hw'', wpMix.later ht0 H (ht0 _ _ _ hw hw'')⟩
    · have := ready_mono hj hji
      rw [(H w' hw).1] at this
      cases this
  | succ fuel ih =>
    intro listed a w hfree hrd hy H w' hw
    refine ⟨fun h => (by rw [h] at hrd; cases hrd), fun j hj => ?_⟩
    by_cases hji : j = i
    · subst hji; exact hy.wpOp hi hr0 (h01 _ _ hw) fun w'' hw'' => ⟨h01 _ _ hw'', wpMix.later ht0 H (ht0 _ _ _ hw hw'')⟩
    · have h1 := (H w' hw).2 j (ready_mono hj hji)
      obtain ⟨hjun, oj, hoj, hall⟩ := mem_ready.1 hj
      have hnot : ∀ e ∈ oj.after, Region.binds md e = true → e.on ≠ i := fun e he hb heq => by
        have h1 := hall e he hb
        have h0 := (mem_ready.1 hrd).1
        rw [heq] at h1
        rcases Nat.lt_or_ge i listed.size with h' | h'
        · simp [h'] at h0 h1; rw [h0] at h1; cases h1
        · simp [Array.getElem?_eq_none h'] at h1
      have h2 := wpOp_putMix ht hoj (hfree j oj hoj hji hjun hnot) (fun cs b => hsel i oi cs b hi) (fun cs b => hsel j oj cs b hoj) hQ (h01 _ _ hw) hy h1
      have hfree' : ∀ k ok, ops[k]? = some ok → k ≠ i → (listed.setIfInBounds j true).getD k true = false →
          (∀ e ∈ ok.after, Region.binds md e = true → e.on ≠ i) → oi.apart ops ok = true := fun k ok hk hki hun hno => by
        refine hfree k ok hk hki ?_ hno
        by_cases hjk : j = k
        · subst hjk; exact hjun
        · rw [getD_set_ne true hjk] at hun; exact hun
      refine wpOp_mono (fun a' w'' h3 => ⟨h3.1, ih (listed.setIfInBounds j true) a' w'' hfree' (ready_mono hrd (Ne.symm hji)) h3.2.1 ?_⟩) h2
      rw [Array.setIfInBounds_comm _ _ hji]
      exact h3.2.2

/-- The planned order: a quiet operation (true) or a loud one (false); E: what is asked behind them. -/
def runPlan (P : Program) (ops : Array Oper) (Q : Exit → Act → World → Prop) (G0 G : World → World → Prop) (E : Act → World → Prop) : List (Nat × Bool) → Act → World → Prop
  | [], a, w => E a w
  | (i, true) :: l, a, w => ∃ o v, ops[i]? = some o ∧ (∀ c a w, Q (.panic c) (a.put o.dst v) w → Q (.panic c) a w) ∧ YieldsMix P ops G0 G o v a w ∧ runPlan P ops Q G0 G E l (a.put o.dst v) w
  | (i, false) :: l, a, w => ∀ w', G0 w w' → wpOp P ops Q i (fun a' w'' => G w' w'' ∧ runPlan P ops Q G0 G E l a' w'') a w'
def EndQ (Q : Exit → Act → World → Prop) (G0 : World → World → Prop) (a : Act) (w : World) : Prop := ∀ w', G0 w w' → Q .normal a w'
def EndL (P : Program) (ops : Array Oper) (Q : Exit → Act → World → Prop) (G0 : World → World → Prop) (last : Nat) (a : Act) (w : World) : Prop := ∀ w', G0 w w' → wpOp P ops Q last (fun a' w'' => ∀ w3, G0 w'' w3 → Q .normal a' w3) a w'

def planFrom (md : Region.Mode) (ops : Array Oper) : List (Nat × Bool) → Array Bool → Bool
  | [], listed => (Region.ready md ops listed).isEmpty
  | (i, true) :: l, listed => (Region.ready md ops listed).contains i && Region.free md ops listed i && planFrom md ops l (listed.setIfInBounds i true)
  | (i, false) :: l, listed => (Region.ready md ops listed == [i]) && planFrom md ops l (listed.setIfInBounds i true)

def planOk (md : Region.Mode) (ops : Array Oper) (plan : List (Nat × Bool)) : Bool :=
  Region.noSelect ops && (plan.length == ops.size) && planFrom md ops plan (Array.replicate ops.size false)

theorem wpMix_plan (hr0 : ∀ w, G0 w w) (ht0 : ∀ a b c, G0 a b → G0 b c → G0 a c) (h01 : ∀ a b, G0 a b → G a b) (ht : ∀ a b c, G a b → G b c → G a c)
    (hs : Region.noSelect ops = true) : ∀ (plan : List (Nat × Bool)) (listed : Array Bool) (a : Act) (w : World),
    planFrom md ops plan listed = true → runPlan P ops Q G0 G (EndQ Q G0) plan a w → wpMix P md ops Q G0 G plan.length listed a w
  | [], listed, a, w, hB, h => fun w' hw => ⟨by simpa [planFrom] using hB, h w' hw⟩
  | (i, true) :: l, listed, a, w, hB, h => by
    simp only [planFrom, Bool.and_eq_true] at hB
    obtain ⟨⟨h1, h2⟩, h3⟩ := hB
    obtain ⟨o, v, ho, hQ, hy, hrest⟩ := h
    exact wpMix_first hr0 ht0 h01 ht ho (Region.noSelect_spec hs) hQ l.length listed a w (Region.free_spec ho h2) (by simpa using h1) hy (wpMix_plan hr0 ht0 h01 ht hs l _ _ _ h3 hrest)
  | (i, false) :: l, listed, a, w, hB, h => by
    simp only [planFrom, Bool.and_eq_true, beq_iff_eq] at hB
    obtain ⟨h1, h3⟩ := hB
    intro w' hw
    refine ⟨fun h0 => (by rw [h1] at h0; cases h0), fun j hj => ?_⟩
    rw [h1, List.mem_singleton] at hj
    subst hj
    exact wpOp_mono (fun a' w'' h' => ⟨h'.1, wpMix_plan hr0 ht0 h01 ht hs l _ a' w'' h3 h'.2⟩) (h w' hw)

/-- A region that draws its order, by a plan. -/
theorem wp_region_plan {id : Nat} {a : Act} {w : World} (plan : List (Nat × Bool)) (hm : P.follows .mixedOrders = true) (hB : planOk .any ops plan = true)
    (hr0 : ∀ w, G0 w w) (ht0 : ∀ a b c, G0 a b → G0 b c → G0 a c) (h01 : ∀ a b, G0 a b → G a b) (ht : ∀ a b c, G a b → G b c → G a c) (hd : G0 w { w with drawn := w.drawn + 1 })
    (h : runPlan P ops Q G0 G (EndQ Q G0) plan a w) : (Code.region id ops true).wp P Q a w := by
  simp only [planOk, Bool.and_eq_true, beq_iff_eq] at hB
  obtain ⟨⟨h1, h2⟩, h3⟩ := hB
  refine wp_region_any hm (wpAny_of_mix (G := G) hr0 _ _ _ _ ?_)
  rw [← h2]
  exact wpMix.later ht0 (wpMix_plan hr0 ht0 h01 ht h1 plan _ _ _ (by rw [h2]; exact h3) h) hd

/-! ### The last operation apart: it may turn what the others have read -/
def wpMixL (P : Program) (md : Region.Mode) (ops : Array Oper) (Q : Exit → Act → World → Prop) (G0 G : World → World → Prop) (last : Nat) : Nat → Array Bool → Act → World → Prop
  | 0, listed, a, w => ∀ w', G0 w w' → Region.ready md ops listed = [] ∧ Q .normal a w'
  | fuel + 1, listed, a, w => ∀ w', G0 w w' →
    (Region.ready md ops listed = [] → Q .normal a w') ∧
    ∀ i ∈ Region.ready md ops listed, wpOp P ops Q i (fun a' w'' => (i = last ∨ G w' w'') ∧ wpMixL P md ops Q G0 G last fuel (listed.setIfInBounds i true) a' w'') a w'
theorem wpMixL.later {last : Nat} (ht0 : ∀ a b c, G0 a b → G0 b c → G0 a c) : ∀ {fuel : Nat} {listed : Array Bool} {a : Act} {w w1 : World}, wpMixL P md ops Q G0 G last fuel listed a w → G0 w w1 → wpMixL P md ops Q G0 G last fuel listed a w1
  | 0, _, _, _, _, h, hg => fun w' hw => h w' (ht0 _ _ _ hg hw)
  | _ + 1, _, _, _, _, h, hg => fun w' hw => h w' (ht0 _ _ _ hg hw)
theorem wpAny_of_mixL {last : Nat} (hr0 : ∀ w, G0 w w) : ∀ (fuel : Nat) (listed : Array Bool) (a : Act) (w : World), wpMixL P md ops Q G0 G last fuel listed a w → wpAny P md ops Q fuel listed a w
  | 0, _, _, w, h => h w (hr0 w)
  | fuel + 1, _, _, w, h => ⟨(h w (hr0 w)).1, fun i hi => wpOp_mono (fun a' w' h' => wpAny_of_mixL hr0 fuel _ a' w' h'.2) ((h w (hr0 w)).2 i hi)⟩
theorem wpMixL_first {last : Nat} (hr0 : ∀ w, G0 w w) (ht0 : ∀ a b c, G0 a b → G0 b c → G0 a c) (h01 : ∀ a b, G0 a b → G a b) (ht : ∀ a b c, G a b → G b c → G a c)
    {i : Nat} {oi : Oper} {v : Value} (hi : ops[i]? = some oi) (hil : ∀ o, ops[last]? = some o → ∃ e ∈ o.after, Region.binds md e = true ∧ e.on = i) (hne : i ≠ last) (hsel : ∀ (j : Nat) (o : Oper) cs b, ops[j]? = some o → o.op ≠ .select cs b)
    (hQ : ∀ c a w, Q (.panic c) (a.put oi.dst v) w → Q (.panic c) a w) :
    ∀ (fuel : Nat) (listed : Array Bool) (a : Act) (w : World),
      (∀ j oj, ops[j]? = some oj → j ≠ i → listed.getD j true = false → (∀ e ∈ oj.after, Region.binds md e = true → e.on ≠ i) → oi.apart ops oj = true) →
      i ∈ Region.ready md ops listed → YieldsMix P ops G0 G oi v a w →
      wpMixL P md ops Q G0 G last fuel (listed.setIfInBounds i true) (a.put oi.dst v) w → wpMixL P md ops Q G0 G last (fuel + 1) listed a w := by
  intro fuel
  induction fuel with
  | zero =>
    intro listed a w _ hrd hy H w' hw
    refine ⟨fun h => (by rw [h] at hrd; cases hrd), fun j hj => ?_⟩
    by_cases hji : j = i
    · subst hji; exact hy.wpOp hi hr0 (h01 _ _ hw) fun w'' hw'' => ⟨.inr (h01 _ _ hw''), wpMixL.later ht0 H (ht0 _ _ _ hw hw'')⟩
    · have := ready_mono hj hji
      rw [(H w' hw).1] at this
      cases this
  | succ fuel ih =>
    intro listed a w hfree hrd hy H w' hw
    refine ⟨fun h => (by rw [h] at hrd; cases hrd), fun j hj => ?_⟩
    by_cases hji : j = i
    · subst hji; exact hy.wpOp hi hr0 (h01 _ _ hw) fun w'' hw'' => ⟨.inr (h01 _ _ hw''), wpMixL.later ht0 H (ht0 _ _ _ hw hw'')⟩
    · have h1 := (H w' hw).2 j (ready_mono hj hji)
      obtain ⟨hjun, oj, hoj, hall⟩ := mem_ready.1 hj
      have hnot : ∀ e ∈ oj.after, Region.binds md e = true → e.on ≠ i := fun e he hb heq => by
        have h1 := hall e he hb
        have h0 := (mem_ready.1 hrd).1
        rw [heq] at h1
        rcases Nat.lt_or_ge i listed.size with h' | h'
        · simp [h'] at h0 h1; rw [h0] at h1; cases h1
        · simp [Array.getElem?_eq_none h'] at h1
      have hjl : j ≠ last := fun e => by
        subst e
        obtain ⟨e, he, hb, ho⟩ := hil oj hoj
        exact hnot e he hb ho
      have h1' : wpOp P ops Q j (fun a' w'' => G w' w'' ∧ wpMixL P md ops Q G0 G last fuel ((listed.setIfInBounds i true).setIfInBounds j true) a' w'') (a.put oi.dst v) w' := wpOp_mono (fun a' w'' h => ⟨h.1.resolve_left hjl, h.2⟩) h1
      have h2 := wpOp_putMix ht hoj (hfree j oj hoj hji hjun hnot) (fun cs b => hsel i oi cs b hi) (fun cs b => hsel j oj cs b hoj) hQ (h01 _ _ hw) hy h1'
      have hfree' : ∀ k ok, ops[k]? = some ok → k ≠ i → (listed.setIfInBounds j true).getD k true = false →
          (∀ e ∈ ok.after, Region.binds md e = true → e.on ≠ i) → oi.apart ops ok = true := fun k ok hk hki hun hno => by
        refine hfree k ok hk hki ?_ hno
        by_cases hjk : j = k
        · subst hjk; exact hjun
        · rw [getD_set_ne true hjk] at hun; exact hun
      refine wpOp_mono (fun a' w'' h3 => ⟨.inr h3.1, ih (listed.setIfInBounds j true) a' w'' hfree' (ready_mono hrd (Ne.symm hji)) h3.2.1 ?_⟩) h2
      rw [Array.setIfInBounds_comm _ _ hji]
      exact h3.2.2
def planFromL (md : Region.Mode) (ops : Array Oper) (last : Nat) : List (Nat × Bool) → Array Bool → Bool
  | [], listed => (Region.ready md ops listed == [last]) && (Region.ready md ops (listed.setIfInBounds last true)).isEmpty
  | (i, true) :: l, listed => (Region.ready md ops listed).contains i && Region.free md ops listed i && (i != last) && ((ops.toList[last]?).elim false fun o => o.after.toList.any fun e => Region.binds md e && e.on == i) && planFromL md ops last l (listed.setIfInBounds i true)
  | (i, false) :: l, listed => (Region.ready md ops listed == [i]) && planFromL md ops last l (listed.setIfInBounds i true)
def planOkL (md : Region.Mode) (ops : Array Oper) (last : Nat) (plan : List (Nat × Bool)) : Bool :=
  Region.noSelect ops && (plan.length + 1 == ops.size) && planFromL md ops last plan (Array.replicate ops.size false)
theorem wpMixL_plan {last : Nat} (hr0 : ∀ w, G0 w w) (ht0 : ∀ a b c, G0 a b → G0 b c → G0 a c) (h01 : ∀ a b, G0 a b → G a b) (ht : ∀ a b c, G a b → G b c → G a c)
    (hs : Region.noSelect ops = true) : ∀ (plan : List (Nat × Bool)) (listed : Array Bool) (a : Act) (w : World),
    planFromL md ops last plan listed = true → runPlan P ops Q G0 G (EndL P ops Q G0 last) plan a w → wpMixL P md ops Q G0 G last (plan.length + 1) listed a w
  | [], listed, a, w, hB, h => by
    simp only [planFromL, Bool.and_eq_true, beq_iff_eq] at hB
    intro w' hw
    refine ⟨fun h0 => (by rw [hB.1] at h0; cases h0), fun j hj => ?_⟩
    rw [hB.1, List.mem_singleton] at hj
    subst hj
    exact wpOp_mono (fun a' w'' h' => ⟨.inl rfl, fun w3 h3 => ⟨by simpa using hB.2, h' w3 h3⟩⟩) (h w' hw)
  | (i, true) :: l, listed, a, w, hB, h => by
    simp only [planFromL, Bool.and_eq_true] at hB
    obtain ⟨⟨⟨⟨h1, h2⟩, h4⟩, h5⟩, h3⟩ := hB
    obtain ⟨o, v, ho, hQ, hy, hrest⟩ := h
    refine wpMixL_first hr0 ht0 h01 ht ho (fun ol hol => ?_) (by simpa using h4) (Region.noSelect_spec hs) hQ (l.length + 1) listed a w (Region.free_spec ho h2) (by simpa using h1) hy (wpMixL_plan hr0 ht0 h01 ht hs l _ _ _ h3 hrest)
    rw [Array.getElem?_toList, hol] at h5
    simp only [Option.elim_some, List.any_eq_true, Bool.and_eq_true, beq_iff_eq] at h5
    obtain ⟨e, he, hb, ho⟩ := h5
    exact ⟨e, by simpa using he, hb, ho⟩
  | (i, false) :: l, listed, a, w, hB, h => by
    simp only [planFromL, Bool.and_eq_true, beq_iff_eq] at hB
    obtain ⟨h1, h3⟩ := hB
    intro w' hw
    refine ⟨fun h0 => (by rw [h1] at h0; cases h0), fun j hj => ?_⟩
    rw [h1, List.mem_singleton] at hj
    subst hj
    exact wpOp_mono (fun a' w'' h' => ⟨.inr h'.1, wpMixL_plan hr0 ht0 h01 ht hs l _ a' w'' h3 h'.2⟩) (h w' hw)
/-- A region that draws its order, by a plan, the last operation apart. -/
theorem wp_region_planL {id : Nat} {a : Act} {w : World} (last : Nat) (plan : List (Nat × Bool)) (hm : P.follows .mixedOrders = true) (hB : planOkL .any ops last plan = true)
    (hr0 : ∀ w, G0 w w) (ht0 : ∀ a b c, G0 a b → G0 b c → G0 a c) (h01 : ∀ a b, G0 a b → G a b) (ht : ∀ a b c, G a b → G b c → G a c) (hd : G0 w { w with drawn := w.drawn + 1 })
    (h : runPlan P ops Q G0 G (EndL P ops Q G0 last) plan a w) : (Code.region id ops true).wp P Q a w := by
  simp only [planOkL, Bool.and_eq_true, beq_iff_eq] at hB
  obtain ⟨⟨h1, h2⟩, h3⟩ := hB
  refine wp_region_any hm (wpAny_of_mixL (G := G) (last := last) hr0 _ _ _ _ ?_)
  rw [← h2]
  exact wpMixL.later ht0 (wpMixL_plan hr0 ht0 h01 ht h1 plan _ _ _ (by rw [h2]; exact h3) h) hd

/-! ### Steps of a plan (the operation is written out: 'ops.toList[i]?') -/
theorem ops_at {i : Nat} {o : Oper} (h : ops.toList[i]? = some o) : ops[i]? = some o := by simpa using h
theorem rp_val {i : Nat} {l : List (Nat × Bool)} {o : Oper} {a : Act} {v : Value} {w : World} (ho : ops.toList[i]? = some o) (hQ : ∀ c a w, Q (.panic c) (a.put o.dst v) w → Q (.panic c) a w)
    (hw : Region.wanted o (yielded ops a.tmps) = true) (hv : ∀ w', G w w' → (execOp a.eval o).run P w' = .ok (.value v) w')
    (h : runPlan P ops Q G0 G E l (a.put o.dst v) w) : runPlan P ops Q G0 G E ((i, true) :: l) a w :=
  ⟨o, v, ops_at ho, hQ, .inl ⟨hw, fun w' hG => by unfold Oper.quietAt; rw [hv w' hG]; exact ⟨rfl, rfl⟩⟩, h⟩
theorem rp_skip {i : Nat} {l : List (Nat × Bool)} {o : Oper} {a : Act} {w : World} (ho : ops.toList[i]? = some o) (hQ : ∀ c a w, Q (.panic c) (a.put o.dst undef) w → Q (.panic c) a w)
    (hw : Region.wanted o (yielded ops a.tmps) = false)
    (h : runPlan P ops Q G0 G E l (a.put o.dst undef) w) : runPlan P ops Q G0 G E ((i, true) :: l) a w :=
  ⟨o, undef, ops_at ho, hQ, .inr ⟨hw, rfl⟩, h⟩
/-- A call of a function whose answer does not hang on the world. -/
theorem rp_call {i : Nat} {l : List (Nat × Bool)} {o : Oper} {a : Act} {v : Value} {f : FuncId} {args : Array Value} {w : World} (ho : ops.toList[i]? = some o) (hQ : ∀ c a w, Q (.panic c) (a.put o.dst v) w → Q (.panic c) a w)
    (hw : Region.wanted o (yielded ops a.tmps) = true) (hv : ∀ w', (execOp a.eval o).run P w' = .ok (.enter f args) w')
    (hc : ∀ w', G w w' → Calls P f args w' fun e w'' => e = .returned v ∧ G0 w' w'')
    (h : runPlan P ops Q G0 G E l (a.put o.dst v) w) : runPlan P ops Q G0 G E ((i, true) :: l) a w :=
  ⟨o, v, ops_at ho, hQ, .inl ⟨hw, fun w' hG => by unfold Oper.quietAt; rw [hv w']; exact ⟨rfl, hc w' hG⟩⟩, h⟩
/-- A loud operation: it is carried out in the world at hand. -/
theorem rp_loud {i : Nat} {l : List (Nat × Bool)} {o : Oper} {a : Act} {w : World} (ho : ops.toList[i]? = some o)
    (hw : Region.wanted o (yielded ops a.tmps) = true)
    (h : ∀ w', G0 w w' → ∀ K : Act → World → Prop, (∀ a' w'', G w' w'' → runPlan P ops Q G0 G E l a' w'' → K a' w'') → o.wp P a w' K Q) : runPlan P ops Q G0 G E ((i, false) :: l) a w := by
  intro w' hG
  refine wpOp_step (ops_at ho) fun K' hK => ?_
  rw [if_pos hw]
  exact h w' hG K' fun a' w'' h1 h2 => hK _ _ ⟨h1, h2⟩
theorem rp_loud_skip {i : Nat} {l : List (Nat × Bool)} {o : Oper} {a : Act} {w : World} (hr : ∀ w, G w w) (ho : ops.toList[i]? = some o)
    (hw : Region.wanted o (yielded ops a.tmps) = false)
    (h : ∀ w', G0 w w' → runPlan P ops Q G0 G E l (a.put o.dst undef) w') : runPlan P ops Q G0 G E ((i, false) :: l) a w := by
  intro w' hG
  refine wpOp_step (ops_at ho) fun K' hK => ?_
  rw [if_neg (by simp [hw])]
  exact hK _ _ ⟨hr _, h w' hG⟩
theorem rp_done {a : Act} {w : World} (h : ∀ w', G0 w w' → Q .normal a w') : runPlan P ops Q G0 G (EndQ Q G0) [] a w := h
/-- The last operation of all: nothing is asked of what it writes. -/
theorem rp_last {last : Nat} {o : Oper} {a : Act} {w : World} (ho : ops.toList[last]? = some o) (hw : Region.wanted o (yielded ops a.tmps) = true)
    (h : ∀ w', G0 w w' → o.wp P a w' (fun a' w'' => ∀ w3, G0 w'' w3 → Q .normal a' w3) Q) : runPlan P ops Q G0 G (EndL P ops Q G0 last) [] a w := by
  intro w' hG
  unfold wpOp
  rw [ops_at ho]
  simp only [hw, if_true]
  exact .inl (h w' hG)
end
end Go.Proofs.Ytffghamcggadcaa
