/- Words for memory: strings as lists of bytes, slices of rules, blocks that are known whole, and worlds that keep all but some blocks. No conditions: definitions and small laws. -/
import Derived.Test.YtffghamcggadcaaPu
import Derived.Test.YtffghamcggadcaaMx
import Derived.Test.YtffghamcggadcaaRows
import Derived.WalkSpells
import Derived.WalkLawsBesides
import Derived.Deep.QuietTactic
import Derived.BigQuiet
import Derived.Lib.Hide
namespace Go.Proofs.Ytffghamcggadcaa
open Go.RowKit
/-! ### Strings -/
def B (x : Str) : ByteArray := ⟨x.toArray⟩
theorem B_of (s : ByteArray) : s = B s.data.toList := by simp [B]
theorem B_size (x : Str) : (B x).size = x.length := by simp [B, ByteArray.size]
theorem B_toList (x : Str) : (B x).toList = x := by rw [Lib.toList_data]; rfl
theorem B_data (x : Str) : (B x).data.toList = x := rfl
theorem B_inj {x y : Str} (h : B x = B y) : x = y := by rw [← B_toList x, h, B_toList]
theorem B_append (x y : Str) : B x ++ B y = B (x ++ y) := by
  apply ByteArray.ext; simp [B, ByteArray.data_append]
theorem B_extract (x : Str) (a b : Nat) : (B x).extract a b = B ((x.drop a).take (b - a)) := by
  apply ByteArray.ext; apply Array.toList_inj.1; simp [B, ByteArray.data_extract]
theorem B_get (x : Str) (k : Nat) (h : k < (B x).size) : (B x)[k]'h = x[k]'(by rwa [B_size] at h) := by simp [B]; rfl
theorem take_rest (x : Str) (a : Nat) : List.take (x.length - a) (List.drop a x) = List.drop a x := List.take_of_length_le (by simp)
theorem B_nil : (⟨#[]⟩ : ByteArray) = B [] := rfl
/-! ### Worlds that keep all blocks but those of S -/
structure Kp (S : Nat → Prop) (w w' : World) : Prop where
  os : w'.os = w.os
  tape : w'.tape = w.tape
  output : w'.output = w.output
  size : w.heap.size ≤ w'.heap.size
  block : ∀ k, k < w.heap.size → ¬ S k → w'.heap[k]? = w.heap[k]?
abbrev Gr (w w' : World) : Prop := Kp (fun _ => False) w w'
section
variable {S T : Nat → Prop} {w w' w'' : World}
theorem Kp.refl (S : Nat → Prop) (w : World) : Kp S w w := ⟨rfl, rfl, rfl, Nat.le_refl _, fun _ _ _ => rfl⟩
theorem Kp.trans (h : Kp S w w') (k : Kp S w' w'') : Kp S w w'' :=
  ⟨k.os.trans h.os, k.tape.trans h.tape, k.output.trans h.output, Nat.le_trans h.size k.size, fun i hi hs => (k.block i (Nat.lt_of_lt_of_le hi h.size) hs).trans (h.block i hi hs)⟩
theorem Kp.mono (h : Kp S w w') (hs : ∀ k, k < w.heap.size → S k → T k) : Kp T w w' := ⟨h.os, h.tape, h.output, h.size, fun k hk ht => h.block k hk fun h' => ht (hs k hk h')⟩
theorem Kp.drew (h : Kp S w w') : Kp S w w'.drew := ⟨h.os, h.tape, h.output, h.size, h.block⟩
theorem Kp.drewN (h : Kp S w w') (n : Nat) : Kp S w (w'.drewN n) := ⟨h.os, h.tape, h.output, h.size, h.block⟩
theorem Kp.drawn (S : Nat → Prop) (w : World) (n : Nat) : Kp S w { w with drawn := n } := ⟨rfl, rfl, rfl, Nat.le_refl _, fun _ _ _ => rfl⟩
theorem Kp.alloc (h : Kp S w w') (o : Obj) : Kp S w (w'.alloc o) :=
  ⟨h.os, h.tape, h.output, (by have h1 := h.size; simp; omega), fun k hk hs => (Below.heap_alloc w' o k (Nat.lt_of_lt_of_le hk h.size)).trans (h.block k hk hs)⟩
theorem Kp.setCell (h : Kp S w w') {p : Addr} (hp : p.block < w.heap.size → S p.block) (u : Value) : Kp S w (w'.setCell p u) :=
  ⟨h.os, h.tape, h.output, by simpa [World.setCell] using h.size, fun k hk hs => (Below.heap_setCell w' p u k (fun e => hs (e ▸ hp (e ▸ hk)))).trans (h.block k hk hs)⟩
theorem Kp.set1 (w : World) (g i : Nat) (u : Value) : Kp (· = g) w (w.setCell ⟨g, i, none⟩ u) := (Kp.refl (· = g) w).setCell (fun _ => rfl) u
theorem Kp.set2 (w : World) (g i j : Nat) (u v : Value) : Kp (· = g) w ((w.setCell ⟨g, i, none⟩ u).setCell ⟨g, j, none⟩ v) := (Kp.set1 w g i u).trans (Kp.set1 _ g j v)
theorem Kp.grown (h : Kp S w w') {row : Option Nat} (hg : w'.grownBy w'' row) (hr : ∀ k, row = some k → k < w.heap.size → S k) : Kp S w w'' :=
  ⟨hg.os.trans h.os, hg.tape.trans h.tape, hg.output.trans h.output, Nat.le_trans h.size hg.size, fun k hk hs => (hg.block k (Nat.lt_of_lt_of_le hk h.size) (fun e => hs (hr k e.symm hk))).trans (h.block k hk hs)⟩
theorem Kp.cell (h : Kp S w w') {a : Addr} {v : Value} (hv : w.cell? a = some v) (hs : ¬ S a.block) : w'.cell? a = some v :=
  (World.cell?_of_block (h.block _ (World.block_lt_of_cell? w a hv) hs)).trans hv
theorem Kp.frozen (h : Kp S w w') {a : Addr} (hl : a.block < w.heap.size) (hs : ¬ S a.block) : w'.frozen? a = w.frozen? a := World.frozen?_of_block (h.block _ hl hs)
theorem Gr.cell (h : Gr w w') {a : Addr} {v : Value} (hv : w.cell? a = some v) : w'.cell? a = some v := Kp.cell h hv (fun h => h)
theorem Kp.below {n : Nat} (h : Kp S w w') (hs : ∀ k, k < n → ¬ S k) (hn : n ≤ w.heap.size) : Below n w w' := ⟨h.os, h.tape, h.output, h.size, fun k hk => h.block k (Nat.lt_of_lt_of_le hk hn) (hs k hk)⟩
theorem Gr.of (h : Below w.heap.size w w') : Gr w w' := ⟨h.os, h.tape, h.output, h.size, fun k hk _ => h.block k hk⟩
/-- a later change of blocks that were not there at first -/
theorem Gr.kp (h : Gr w w') (k : Kp S w' w'') (hs : ∀ i, i < w.heap.size → ¬ S i) : Gr w w'' :=
  ⟨k.os.trans h.os, k.tape.trans h.tape, k.output.trans h.output, Nat.le_trans h.size k.size, fun i hi _ => (k.block i (Nat.lt_of_lt_of_le hi h.size) (hs i hi)).trans (h.block i hi (fun h => h))⟩
end
/-- A region that draws its order: loud operations may write blocks of S; quiet ones do not read them. -/
theorem wp_region_S {P : Program} {ops : Array Oper} {Q : Exit → Act → World → Prop} {id : Nat} {a : Act} {w : World} (S : Nat → Prop) (plan : List (Nat × Bool)) (hm : P.follows .mixedOrders = true) (hB : planOk .any ops plan = true)
    (h : runPlan P ops Q Gr (Kp S) (EndQ Q Gr) plan a w) : (Code.region id ops true).wp P Q a w :=
  wp_region_plan plan hm hB (fun _ => Kp.refl _ _) (fun _ _ _ h1 h2 => h1.trans h2) (fun _ _ h => h.mono fun _ _ h => h.elim) (fun _ _ _ h1 h2 => h1.trans h2) (Kp.drawn _ _ _) h
/-- .. the last operation apart: it may write what the others have read. -/
theorem wp_region_L {P : Program} {ops : Array Oper} {Q : Exit → Act → World → Prop} {id : Nat} {a : Act} {w : World} (S : Nat → Prop) (last : Nat) (plan : List (Nat × Bool)) (hm : P.follows .mixedOrders = true) (hB : planOkL .any ops last plan = true)
    (h : runPlan P ops Q Gr (Kp S) (EndL P ops Q Gr last) plan a w) : (Code.region id ops true).wp P Q a w :=
  wp_region_planL last plan hm hB (fun _ => Kp.refl _ _) (fun _ _ _ h1 h2 => h1.trans h2) (fun _ _ h => h.mono fun _ _ h => h.elim) (fun _ _ _ h1 h2 => h1.trans h2) (Kp.drawn _ _ _) h
/-! ### A block that is known whole -/
def Blk (w : World) (g : Nat) (t : TypeId) (cs : Array Value) : Prop := w.heap[g]? = some (.cells cs t (0, 0))
section
variable {S : Nat → Prop} {w w' : World} {g : Nat} {t : TypeId} {cs : Array Value}
theorem Blk.lt (h : Blk w g t cs) : g < w.heap.size := by
  rcases Nat.lt_or_ge g w.heap.size with hlt | hge
  · exact hlt
  · unfold Blk at h; rw [Array.getElem?_eq_none hge] at h; cases h
theorem Blk.cell (h : Blk w g t cs) (i : Nat) : w.cell? ⟨g, i, none⟩ = cs[i]? := cell_of_row w g i cs t (0, 0) h
theorem Blk.frozen (h : Blk w g t cs) (i : Nat) : w.frozen? ⟨g, i, none⟩ = false := by
  unfold Blk at h
  simp [World.frozen?, h]
theorem Blk.two {x y : Value} (h : Blk w g t #[x, y]) : w.cell? ⟨g, 0, none⟩ = some x ∧ w.cell? ⟨g, 1, none⟩ = some y ∧ w.frozen? ⟨g, 0, none⟩ = false ∧ w.frozen? ⟨g, 1, none⟩ = false :=
  ⟨h.cell 0, h.cell 1, h.frozen 0, h.frozen 1⟩
theorem Blk.new (w : World) (t : TypeId) (cs : Array Value) : Blk (w.alloc (.cells cs t)) w.heap.size t cs := heap_alloc_new w _
theorem Blk.set_ (h : Blk w g t cs) (i : Nat) (u : Value) : Blk (w.setCell ⟨g, i, none⟩ u) g t (cs.setIfInBounds i u) := by
  unfold Blk at h ⊢
  simp [World.setCell, Array.getElem?_modify, h]
theorem Blk.far (h : Blk w g t cs) {p : Addr} (hp : g ≠ p.block) (u : Value) : Blk (w.setCell p u) g t cs := (Below.heap_setCell w p u g hp).trans h
theorem Blk.alloc (h : Blk w g t cs) (o : Obj) : Blk (w.alloc o) g t cs := (Below.heap_alloc w o g h.lt).trans h
theorem Blk.drewN (h : Blk w g t cs) (n : Nat) : Blk (w.drewN n) g t cs := h
theorem Blk.drew (h : Blk w g t cs) : Blk w.drew g t cs := h
theorem Blk.kp (h : Blk w g t cs) (hb : Kp S w w') (hs : ¬ S g) : Blk w' g t cs := (hb.block g h.lt hs).trans h
theorem Blk.gr (h : Blk w g t cs) (hb : Gr w w') : Blk w' g t cs := h.kp hb (fun h => h)
end
/-! ### Slices -/
theorem add_block (a : Addr) (n : Nat) : (a.add n).block = a.block := by unfold Addr.add; split <;> rfl
theorem add_succ (a : Addr) (n : Nat) : a.add (n + 1) = ⟨(a.add n).block, (a.add n).off + 1, none⟩ := by
  unfold Addr.add
  by_cases h : n = 0 <;> simp [h, Nat.add_assoc]
theorem add_add' (a : Addr) (i j : Nat) : (a.add i).add j = a.add (i + j) := by
  unfold Addr.add
  by_cases hi : i = 0 <;> by_cases hj : j = 0 <;> simp [hi, hj, Nat.add_assoc]
/-- the cells from A on, a run for each element -/
def At {α : Type} (enc : α → List Value) (sz : Nat) (w : World) (A : Option Addr) (l : List α) : Prop :=
  ∀ i (h : i < l.length), ∃ ad, A = some ad ∧ ∀ j u, (enc l[i])[j]? = some u → w.cell? (ad.add (i * sz + j)) = some u
section
variable {α : Type} {enc : α → List Value} {sz : Nat} {S : Nat → Prop} {w w' : World} {A : Option Addr} {l : List α}
theorem At.kp (h : At enc sz w A l) (hb : Kp S w w') (hs : ∀ ad, A = some ad → ¬ S ad.block) : At enc sz w' A l := fun i hi => by
  obtain ⟨ad, e, hc⟩ := h i hi
  exact ⟨ad, e, fun j u hu => hb.cell (hc j u hu) (by rw [add_block]; exact hs ad e)⟩
theorem At.gr (h : At enc sz w A l) (hb : Gr w w') : At enc sz w' A l := h.kp hb fun _ _ h => h
theorem At.nil (enc : α → List Value) (sz : Nat) (w : World) (A : Option Addr) : At enc sz w A [] := fun i h => absurd h (by simp)
end
def encR (r : Rule) : List Value := [.string (B r.1), .string (B r.2)]
def encS (s : Str) : List Value := [.string (B s)]
def encI (n : Int) : List Value := [.int .i64 n]
abbrev RAt := At encR 2
abbrev SAt := At encS 1
abbrev IAt := At encI 1
theorem RAt.get {w : World} {A : Option Addr} {l : List Rule} (h : RAt w A l) {i : Nat} (hi : i < l.length) :
    ∃ ad, A = some ad ∧ w.cell? (ad.add (i * 2)) = some (.string (B l[i].1)) ∧ w.cell? ⟨(ad.add (i * 2)).block, (ad.add (i * 2)).off + 1, none⟩ = some (.string (B l[i].2)) := by
  obtain ⟨ad, e, hc⟩ := h i hi
  exact ⟨ad, e, hc 0 _ rfl, by rw [← add_succ]; exact hc 1 _ rfl⟩
theorem IAt.get {w : World} {A : Option Addr} {l : List Int} (h : IAt w A l) {i : Nat} (hi : i < l.length) :
    ∃ ad, A = some ad ∧ w.cell? (ad.add i) = some (.int .i64 l[i]) := by
  obtain ⟨ad, e, hc⟩ := h i hi
  exact ⟨ad, e, by have := hc 0 _ rfl; simpa using this⟩
theorem SAt.get {w : World} {A : Option Addr} {l : List Str} (h : SAt w A l) {i : Nat} (hi : i < l.length) :
    ∃ ad, A = some ad ∧ w.cell? (ad.add i) = some (.string (B l[i])) := by
  obtain ⟨ad, e, hc⟩ := h i hi
  exact ⟨ad, e, by have := hc 0 _ rfl; simpa using this⟩
/-! ### Small things for the walks -/
theorem enters' {P : Program} {f : FuncId} {fn : Func} {c : Code} (hf : P.funcs[f]? = some fn) (hname : (fn.name == "runtime.NumGoroutine") = false) (hb : fn.body = some c) (args : Array Value) (w : World) :
    (callFunc f args).run P w = .ok (.enter f args) w := by
  have h1 : fn.name ≠ "runtime.NumGoroutine" := by simpa using hname
  simp [callFunc, hf, h1, hb, mark]
theorem ret_int {k : IntKind} {a b : Int} (h : a = b) : Ending.returned (.int k a) = .returned (.int k b) := by rw [h]
theorem ret_bool {a b : Bool} (h : a = b) : Ending.returned (.bool a) = .returned (.bool b) := by rw [h]
theorem ret_str {a b : Str} (h : a = b) : Ending.returned (.string (B a)) = .returned (.string (B b)) := by rw [h]
end Go.Proofs.Ytffghamcggadcaa
