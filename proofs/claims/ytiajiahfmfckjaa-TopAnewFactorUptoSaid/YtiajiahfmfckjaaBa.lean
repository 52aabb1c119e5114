/- The base of this seat's proofs: what a step of the world keeps, a range over a function at any invariant, marks, a cache in a map. It states nothing of the program. -/
import Derived.RangeFuncNested
import Derived.RangeFuncBound
import Derived.RangeFuncCalls
import Derived.RangeFuncLeaves
import Derived.WalkKit
import Derived.Below
import Derived.Lib.Hide
import Derived.Deep.Draws
import Derived.StillTailTactics
import Derived.OwnWalkIn
import Derived.TacticsInMore
import Derived.LoopNIn
import Derived.LoopIn
import Derived.LoopTactic
import Derived.KernelRfl
namespace Go.Proofs.Ytiajiahfmfckjaa
open Go.RowKit

/-- The blocks of S that lay in w lie in w' as they lay; none has gone; the streams are as they were. -/
structure Kept (S : Nat → Prop) (w w' : World) : Prop where
  os : w'.os = w.os
  tape : w'.tape = w.tape
  output : w'.output = w.output
  size : w.heap.size ≤ w'.heap.size
  block : ∀ k, k < w.heap.size → S k → w'.heap[k]? = w.heap[k]?

def All : Nat → Prop := fun _ => True

section
variable {S T : Nat → Prop} {a w w' : World}

theorem Kept.refl (S : Nat → Prop) (w : World) : Kept S w w := ⟨rfl, rfl, rfl, Nat.le_refl _, fun _ _ _ => rfl⟩
theorem Kept.trans {b c : World} (h : Kept S a b) (k : Kept S b c) : Kept S a c :=
  ⟨k.os.trans h.os, k.tape.trans h.tape, k.output.trans h.output, Nat.le_trans h.size k.size,
    fun i hi hs => (k.block i (Nat.lt_of_lt_of_le hi h.size) hs).trans (h.block i hi hs)⟩
theorem Kept.mono (h : Kept S w w') (hT : ∀ k, k < w.heap.size → T k → S k) : Kept T w w' :=
  ⟨h.os, h.tape, h.output, h.size, fun k hk ht => h.block k hk (hT k hk ht)⟩
theorem Kept.all (h : Kept All w w') : Kept S w w' := h.mono fun _ _ _ => trivial
/-- a step that keeps all that lay when it began, behind one that keeps S -/
theorem Kept.thenAll {b : World} (h : Kept S a b) (k : Kept All b w) : Kept S a w := h.trans k.all
theorem Kept.weld {b c : World} (h : Kept All a b) (k : Kept S b c) (hS : ∀ k, k < a.heap.size → S k) : Kept All a c :=
  ⟨k.os.trans h.os, k.tape.trans h.tape, k.output.trans h.output, Nat.le_trans h.size k.size, fun i hi _ => (k.block i (Nat.lt_of_lt_of_le hi h.size) (hS i hi)).trans (h.block i hi trivial)⟩
theorem Kept.drew (h : Kept S a w) : Kept S a w.drew := ⟨h.os, h.tape, h.output, h.size, h.block⟩
theorem Kept.drewN (h : Kept S a w) (n : Nat) : Kept S a (w.drewN n) := ⟨h.os, h.tape, h.output, h.size, h.block⟩
theorem Kept.alloc (h : Kept S a w) (o : Obj) : Kept S a (w.alloc o) :=
  h.trans ⟨rfl, rfl, rfl, by simp, fun k hk _ => Below.heap_alloc _ _ _ hk⟩
theorem Kept.setCell (h : Kept S a w) {p : Addr} (hp : p.block < a.heap.size → ¬ S p.block) (v : Value) : Kept S a (w.setCell p v) :=
  ⟨h.os, h.tape, h.output, by have := h.size; simpa [World.setCell] using this, fun k hk hs => by
    have hne : k ≠ p.block := fun e => by subst e; exact hp hk hs
    rw [Below.heap_setCell _ _ _ _ hne]; exact h.block k hk hs⟩
theorem Kept.setNew (h : Kept S a w) {p : Addr} (hp : a.heap.size ≤ p.block) (v : Value) : Kept S a (w.setCell p v) :=
  h.setCell (fun hlt => absurd hlt (Nat.not_lt.2 hp)) v
theorem Kept.putObj (h : Kept S a w) {r : Nat} (hp : r < a.heap.size → ¬ S r) (o : Obj) : Kept S a (w.putObj r o) :=
  ⟨h.os, h.tape, h.output, by rw [World.putObj_size]; exact h.size, fun k hk hs => by
    have hne : k ≠ r := fun e => by subst e; exact hp hk hs
    rw [World.putObj_heap_other hne]; exact h.block k hk hs⟩
theorem Kept.grown (h : Kept S a w) {row : Option Nat} (hg : w.grownBy w' row) (hr : ∀ k, row = some k → k < a.heap.size → ¬ S k) : Kept S a w' :=
  ⟨hg.os.trans h.os, hg.tape.trans h.tape, hg.output.trans h.output, Nat.le_trans h.size hg.size, fun k hk hs =>
    (hg.block k (Nat.lt_of_lt_of_le hk h.size) (fun e => hr k e.symm hk hs)).trans (h.block k hk hs)⟩
theorem lt_of_heap {o : Obj} {k : Nat} (h : w.heap[k]? = some o) : k < w.heap.size := (Array.getElem?_eq_some_iff.1 h).1
theorem lt_of_cell {p : Addr} {v : Value} (h : w.cell? p = some v) : p.block < w.heap.size := World.block_lt_of_cell? w p h
theorem Kept.heap (h : Kept S w w') {k : Nat} {o : Obj} (ho : w.heap[k]? = some o) (hs : S k) : w'.heap[k]? = some o :=
  (h.block k (lt_of_heap ho) hs).trans ho
theorem Kept.cell (h : Kept S w w') {p : Addr} {v : Value} (hc : w.cell? p = some v) (hs : S p.block) : w'.cell? p = some v :=
  (World.cell?_of_block (w := w) (h.block p.block (lt_of_cell hc) hs)).trans hc
theorem Kept.cellEq (h : Kept S w w') {p : Addr} (hp : p.block < w.heap.size) (hs : S p.block) : w'.cell? p = w.cell? p :=
  World.cell?_of_block (w := w) (h.block p.block hp hs)
theorem Kept.frozen (h : Kept S w w') {p : Addr} (hp : p.block < w.heap.size) (hs : S p.block) : w'.frozen? p = w.frozen? p :=
  World.frozen?_of_block (w := w) (h.block p.block hp hs)
theorem Kept.below (h : Kept All w w') : Below w.heap.size w w' := ⟨h.os, h.tape, h.output, h.size, fun k hk => h.block k hk trivial⟩
theorem Kept.of_below (h : Below w.heap.size w w') : Kept S w w' := ⟨h.os, h.tape, h.output, h.size, fun k hk _ => h.block k hk⟩
end

/-! ### A block that is known whole -/
def Blk (w : World) (g : Nat) (t : TypeId) (cs : Array Value) : Prop := w.heap[g]? = some (.cells cs t (0, 0))
section
variable {S : Nat → Prop} {w w' : World} {g : Nat} {t : TypeId} {cs : Array Value}
theorem Blk.lt (h : Blk w g t cs) : g < w.heap.size := lt_of_heap h
theorem Blk.cell (h : Blk w g t cs) (i : Nat) : w.cell? ⟨g, i, none⟩ = cs[i]? := by
  unfold Blk at h
  simp [World.cell?, h]
theorem Blk.at (h : Blk w g t cs) (i : Nat) {v : Value} (hv : cs[i]? = some v) : w.cell? ⟨g, i, none⟩ = some v := (h.cell i).trans hv
theorem Blk.frozen (h : Blk w g t cs) (i : Nat) : w.frozen? ⟨g, i, none⟩ = false := by
  unfold Blk at h
  simp [World.frozen?, h]
theorem Blk.new (w : World) (t : TypeId) (cs : Array Value) : Blk (w.alloc (.cells cs t)) w.heap.size t cs := World.alloc_heap_new w _
theorem Blk.new' {w : World} {g : Nat} (t : TypeId) (cs : Array Value) (hg : g = w.heap.size) : Blk (w.alloc (.cells cs t)) g t cs := by subst hg; exact World.alloc_heap_new w _
theorem Blk.alloc (h : Blk w g t cs) (o : Obj) : Blk (w.alloc o) g t cs := (Below.heap_alloc w o g h.lt).trans h
theorem Blk.drew (h : Blk w g t cs) : Blk w.drew g t cs := h
theorem Blk.set (h : Blk w g t cs) (i : Nat) (u : Value) : Blk (w.setCell ⟨g, i, none⟩ u) g t (cs.setIfInBounds i u) := by
  unfold Blk at h ⊢
  simp [World.setCell, Array.getElem?_modify, h]
theorem Blk.far (h : Blk w g t cs) {p : Addr} (hp : g ≠ p.block) (u : Value) : Blk (w.setCell p u) g t cs := (Below.heap_setCell w p u g hp).trans h
theorem Blk.kept (h : Blk w g t cs) (hk : Kept S w w') (hs : S g) : Blk w' g t cs := hk.heap h hs
end

/-! ### A region that draws its order, where all but a tail only read -/
section
variable {F : Fence} {m : Nat} {P : Program} {ops : Array Oper} {w : World}

/-- a fence that lets all in -/
structure Open (F : Fence) : Prop where
  fn : ∀ f, F.fn f
  depth : F.depth = none
  all : ∀ (P : Program) (mm : Machine), mm.fenced P F
theorem open_wide : Open Fence.wide := ⟨fun _ => trivial, rfl, fun P mm => fenced_wide P mm⟩
theorem open_round (l : Nat) : Open (Fence.wide.inRound l) := ⟨fun _ => trivial, rfl, fun P mm => by rw [fenced_inRound]; exact fenced_wide P mm⟩
theorem Open.calls (hF : Open F) {f : FuncId} {args : Array Value} {R : Ending → World → Prop} (h : Calls P f args w R) : CallsIn F m P f args w R :=
  ⟨hF.fn f, fun cs _ => by
    obtain ⟨e, w'', fr, hR, hs, hfn, hl⟩ := h cs
    refine ⟨e, w'', fr, hR, ?_, hfn, hl⟩
    cases e with
    | returned v => exact (StepsIn.of_steps hs).mono (fun mm _ => hF.all P mm)
    | panicked c => exact (StepsIn.of_steps hs).mono (fun mm _ => hF.all P mm)
    | outgrown => exact hs⟩

theorem wpOpIn_of_stOp (hF : Open F) (hdef : ∀ (j : Nat) (o : Oper) c, ops[j]? = some o → o.op ≠ .defer c) {i : Nat} {a : Act} {K : Act → Prop} {K' : Act → World → Prop} {Q' : Exit → Act → World → Prop}
    (h : ∀ a, K a → K' a w) (hh : stOp P ops w i K a) : wpOpIn F m P ops Q' i K' a w := by
  unfold stOp at hh
  unfold wpOpIn
  cases ho : ops[i]? with
  | none => simp only [ho] at hh; exact h _ hh
  | some o =>
    simp only [ho] at hh
    dsimp only
    split
    · rename_i hw
      simp only [hw, if_true] at hh
      refine ⟨fun f _ => hF.fn f, ?_⟩
      rw [Oper.semAt_plain F _ _ (fun c => hdef i o c ho)]
      unfold Oper.still at hh
      generalize (execOp a.eval o).run P w = r at *
      cases r with
      | ok n w' =>
        cases n <;> simp only [Oper.stillUpon] at hh <;> simp only [Oper.uponIn]
        case enter f args =>
          obtain ⟨rfl, v, hc, hn⟩ := hh
          exact ⟨fun hs => (by rw [hF.depth] at hs; cases hs), hF.calls (hc.mono fun e w'' ⟨he, hw''⟩ => by subst he; subst hw''; exact h _ hn)⟩
        all_goals (obtain ⟨rfl, h2⟩ := hh; exact h _ h2)
      | halt x w' => simp only [Oper.stillUpon] at hh
    · rename_i hw
      simp only [hw] at hh
      exact ⟨fun f _ => hF.fn f, h _ hh⟩

theorem wpAnyIn_of_head (hF : Open F) (hdef : ∀ (j : Nat) (o : Oper) c, ops[j]? = some o → o.op ≠ .defer c) {n g : Nat} {L : Array Bool → Act → Prop} {md : Region.Mode} {Q' : Exit → Act → World → Prop}
    (hL : ∀ listed a, L listed a → wpAnyIn F m P md ops Q' g listed a w) :
    ∀ (f : Nat) (listed : Array Bool) (a : Act), wpAnyL P md ops w n L f listed a → wpAnyIn F m P md ops Q' (f + g) listed a w
  | 0, listed, a, h => by rw [Nat.zero_add]; exact hL _ _ h
  | f + 1, listed, a, h => by
    rw [show f + 1 + g = (f + g) + 1 by omega]
    exact ⟨fun h0 => absurd h0 h.1, fun i hi => wpOpIn_of_stOp hF hdef (fun a' h' => wpAnyIn_of_head hF hdef hL f _ a' h') (h.2 i hi).2⟩

theorem wpAnyIn_of_seq {md : Region.Mode} {Q' : Exit → Act → World → Prop} : ∀ (l : List Oper) (k : Nat) (listed : Array Bool) (a : Act) (w : World), (∀ j, l[j]? = ops[k + j]?) →
    Region.seqB md ops l.length k listed = true → wpListIn F m P ops Q' l a w → wpAnyIn F m P md ops Q' l.length listed a w
  | [], _, _, _, _, _, hB, h => ⟨by simpa [Region.seqB] using hB, h⟩
  | o :: l, k, listed, a, w, hl, hB, h => by
    have h0 : ops[k]? = some o := by simpa using (hl 0).symm
    simp only [List.length_cons, Region.seqB, Bool.and_eq_true, decide_eq_true_eq] at hB
    refine ⟨fun h1 => (by rw [hB.1] at h1; cases h1), fun i hi => ?_⟩
    rw [hB.1] at hi
    have hik : i = k := by simpa using hi
    subst hik
    have hw : wpOpIn F m P ops Q' i (wpListIn F m P ops Q' l) a w := by unfold wpOpIn; simp only [h0]; exact h
    exact wpOpIn_mono (fun a' w' h' => wpAnyIn_of_seq l (i + 1) _ a' w' (fun j => by have := hl (j + 1); simpa [Nat.add_assoc, Nat.add_comm 1 j] using this) hB.2 h') hw

theorem wpAnyIn_of_still (hF : Open F) (hdef : ∀ (j : Nat) (o : Oper) c, ops[j]? = some o → o.op ≠ .defer c) {md : Region.Mode} {Q : Act → Prop} {Q' : Exit → Act → World → Prop} (hQ : ∀ a, Q a → Q' .normal a w) : ∀ (fuel : Nat) (listed : Array Bool) (a : Act),
    wpAnyS P md ops w Q fuel listed a → wpAnyIn F m P md ops Q' fuel listed a w
  | 0, _, _, h => ⟨h.1, hQ _ h.2⟩
  | fuel + 1, _, _, h => ⟨fun h0 => hQ _ (h.1 h0), fun i hi => wpOpIn_of_stOp hF hdef (fun a' => wpAnyIn_of_still hF hdef hQ fuel _ a') (h.2 i hi)⟩

def noDefer (l : List Oper) : Bool := l.all fun o => match o.op with | .defer _ => false | _ => true
theorem noDefer_spec {l : List Oper} (h : noDefer l = true) (j : Nat) (o : Oper) (c : Call) (ho : l.toArray[j]? = some o) : o.op ≠ .defer c := by
  intro e
  have hm : o ∈ l := List.mem_of_getElem? (by simpa using ho)
  have := List.all_eq_true.1 h o hm
  rw [e] at this
  cases this

/-- a region that draws its order: the first n operations only read, those behind them stand in one order -/
theorem wp_tail {id : Nat} {Q : Exit → Act → World → Prop} {a : Act} {l : List Oper} (n : Nat) (hm : P.follows .mixedOrders = true) (hB : Region.lexTailB .any l.toArray n = true)
    (h : wpStill P l.toArray w.drew (fun a' => wpList P l.toArray Q (l.drop n) a' w.drew) (l.take n) a) : (Code.region id l.toArray true).wp P Q a w := wp_region_still_tail n hm hB h
theorem wp_still {id : Nat} {Q : Exit → Act → World → Prop} {a : Act} {l : List Oper} (hm : P.follows .mixedOrders = true) (hB : Region.lexB .any l.toArray = true)
    (h : wpStill P l.toArray w.drew (fun a' => Q .normal a' w.drew) l a) : (Code.region id l.toArray true).wp P Q a w := wp_region_still_lit hm hB h

theorem wpIn_tail {id : Nat} {Q : Exit → Act → World → Prop} {a : Act} {l : List Oper} (hF : Open F) (n : Nat) (hm : P.follows .mixedOrders = true) (hd : noDefer l = true) (hB : Region.lexTailB .any l.toArray n = true)
    (h : wpStill P l.toArray w.drew (fun a' => wpListIn F m P l.toArray Q (l.drop n) a' w.drew) (l.take n) a) : (Code.region id l.toArray true).wpIn F m P Q a w := by
  simp only [Region.lexTailB, Bool.and_eq_true, decide_eq_true_eq] at hB
  obtain ⟨⟨⟨⟨hsel, hn⟩, hs⟩, hc⟩, hlex⟩ := hB
  have hn' : n < l.length := by simpa using hn
  have htl : (l.take n).length = n := by simp; omega
  have hdl : (l.drop n).length = l.toArray.size - n := by simp
  have inv0 : HeadInv .any l.toArray n (Array.replicate l.toArray.size false) :=
    ⟨by simp, fun j oj _ hl => (by rw [getD_replicate_false] at hl; cases hl), fun t _ ht => getD_in (by simpa using ht) (getD_replicate_false _ _)⟩
  have H := wpAnyL_lex (md := .any) (g := l.toArray.size - n) hsel hs hc hn (l.take n) 0 _ a (fun j hj => by
    have hj' : j < n := by rw [htl] at hj; exact hj
    simp [hj']) (by simpa using htl) inv0 (by rw [htl]; exact hlex) h
  refine wpIn_region_any hm ?_
  have := wpAnyIn_of_head (m := m) (Q' := Q) hF (noDefer_spec hd) (g := l.toArray.size - n) (fun listed a' hL => by
    have := wpAnyIn_of_seq (F := F) (m := m) (P := P) (md := .any) (Q' := Q) (l.drop n) n listed a' w.drew (fun j => by simp [List.getElem?_drop]) (by rw [hdl]; exact hL.1) hL.2
    rwa [hdl] at this) _ _ _ H
  rw [htl, show n + (l.toArray.size - n) = l.toArray.size by omega] at this
  exact this
theorem wpIn_still {id : Nat} {Q : Exit → Act → World → Prop} {a : Act} {l : List Oper} (hF : Open F) (hm : P.follows .mixedOrders = true) (hd : noDefer l = true) (hB : Region.lexB .any l.toArray = true)
    (h : wpStill P l.toArray w.drew (fun a' => Q .normal a' w.drew) l a) : (Code.region id l.toArray true).wpIn F m P Q a w := by
  simp only [Region.lexB, Bool.and_eq_true] at hB
  refine wpIn_region_any hm (wpAnyIn_of_still hF (noDefer_spec hd) (Q := fun a' => Q .normal a' w.drew) (fun _ h => h) _ _ _ ?_)
  have := wpAnyS_lex (md := .any) hB.1 l 0 (Array.replicate l.toArray.size false) a (by simp) (by simpa using hB.2) h
  simpa using this
end

/-! ### A range over a function -/
section
variable {P : Program}

/-- WHAT AN ITERATOR DOES, for whatever invariant J of its caller: it hands over just xs, in order, until a round says 'no more'. Of the blocks that lay when it was called it writes those of M alone; a round keeps those of S and all that the iterator has laid. -/
def Iter {α : Type} (P : Program) (g : Nat) (caps : Array Value) (encs : α → Array Value) (xs : List α) (M S : Nat → Prop) (Own : World → Prop) (w0 : World) : Prop :=
  ∀ (l : Nat) (J Jx : List α → World → Prop) (W : World), Kept All w0 W →
    (∀ pre A B, J pre A → W.heap.size ≤ A.heap.size → Kept (fun k => k < W.heap.size ∧ ¬ M k) A B → J pre B) →
    (∀ pre A B, Jx pre A → W.heap.size ≤ A.heap.size → Kept (fun k => k < W.heap.size ∧ ¬ M k) A B → Jx pre B) →
    (∀ pre x A, J pre A → W.heap.size ≤ A.heap.size → (pre ++ [x]) <+: xs → YieldAt Fence.wide 0 P l (encs x) A fun e B =>
      (e = .returned (.bool true) ∧ J (pre ++ [x]) B ∧ Kept (fun k => S k ∨ W.heap.size ≤ k) A B) ∨
      (e = .returned (.bool false) ∧ Jx (pre ++ [x]) B ∧ Kept (fun k => S k ∨ W.heap.size ≤ k) A B)) →
    J [] W →
    Calls P g (#[.func (.yield l) #[] #[]] ++ caps) W fun e B => (∃ v, e = .returned v) ∧ W.heap.size ≤ B.heap.size ∧ Own B ∧ (J xs B ∨ ∃ pre, pre <+: xs ∧ Jx pre B)

theorem Iter.later {α : Type} {g : Nat} {caps : Array Value} {encs : α → Array Value} {xs : List α} {M S : Nat → Prop} {Own : World → Prop} {w w' : World} (h : Iter P g caps encs xs M S Own w) (hk : Kept All w w') : Iter P g caps encs xs M S Own w' :=
  fun l J Jx W hW => h l J Jx W (hk.trans hW)

/-- how a round's body may be left -/
def roundEnd {α : Type} (S : Nat → Prop) (B0 : Nat) (I : List α → World → Prop) (Ix : Code → List α → World → Prop) (xs : List α) (W : World) : Exit → Act → World → Prop
  | .normal, _, W' => Kept (fun k => S k ∨ B0 ≤ k) W W' ∧ I xs W'
  | .ret, _, W' => Kept (fun k => S k ∨ B0 ≤ k) W W' ∧ Ix .ret xs W'
  | .exit id, _, W' => Kept (fun k => S k ∨ B0 ≤ k) W W' ∧ Ix (.exit id) xs W'
  | _, _, _ => False

theorem wp_range {α : Type} {g : Operand} {ps : Array Tmp} {assign body : Code} {Q : Exit → Act → World → Prop} {a : Act} {w : World}
    {gf : Nat} {caps : Array Value} (hg : a.eval g = .func (.func gf) #[] caps) (eg : ∀ args w, (callFunc gf args).run P w = .ok (.enter gf args) w)
    {encs : α → Array Value} {xs : List α} {M S : Nat → Prop} {Own : World → Prop} (hit : Iter P gf caps encs xs M S Own w) (hOwn : ∀ A B, Own A → Kept M A B → Own B) (hps : ∀ x, (encs x).size = ps.size)
    (hS : ∀ k, S k → k < w.heap.size) (hM : ∀ k, M k → k < w.heap.size)
    (I : List α → World → Prop) (Ix : Code → List α → World → Prop)
    (hI : ∀ pre A B, I pre A → w.heap.size ≤ A.heap.size → Kept (fun k => k < w.heap.size ∧ ¬ M k) A B → I pre B)
    (hIx : ∀ c pre A B, Ix c pre A → w.heap.size ≤ A.heap.size → Kept (fun k => k < w.heap.size ∧ ¬ M k) A B → Ix c pre B)
    (h0 : I [] w)
    (hround : ∀ (l : Nat) (pre : List α) (x : α) (W : World), w.heap.size ≤ l → w.heap.size < W.heap.size → (∃ r, W.heap[l]? = some (.loop r)) → I pre W → (pre ++ [x]) <+: xs →
      assign.wpIn (Fence.wide.inRound l) 0 P (Exit.then (fun a' W' => Kept All W W' ∧ ∀ W'', Kept (fun k => k ≠ l) W' W'' → I pre W'' → body.wpIn (Fence.wide.inRound l) 0 P (roundEnd S w.heap.size I Ix (pre ++ [x]) W'') a' W'') (fun _ _ _ => False))
        { tmps := (ps.zip (encs x)).foldl (fun t (p, v) => t.setIfInBounds p v) a.tmps, defers := [] } W)
    (hdone : ∀ W, w.heap.size < W.heap.size → Own W → I xs W → W.heap[w.heap.size]? = some (.deferred (some [])) → Q .normal { a with defers := { target := .collected w.heap.size, args := #[] } :: a.defers } W)
    (hstop : ∀ c pre W, w.heap.size < W.heap.size → Own W → pre <+: xs → Ix c pre W → W.heap[w.heap.size]? = some (.deferred (some [])) → c.wpIn Fence.wide 0 P Q { a with defers := { target := .collected w.heap.size, args := #[] } :: a.defers } W) :
    (Code.rangeFunc g ps assign body).wpIn Fence.wide 0 P Q a w := by
  refine wpIn_rangeFunc ?_
  intro fn _
  obtain ⟨rec, hrec⟩ : ∃ rec : LoopState → Option Code → Loop, rec = fun st pe => { state := st, pending := pe, fn, tmps := a.tmps, params := ps, assign, body, defers := w.heap.size } := ⟨_, rfl⟩
  obtain ⟨W1, hW1⟩ : ∃ W1, (w.alloc (.deferred (some []))).alloc (.loop (rec .ready none)) = W1 := ⟨_, rfl⟩
  have hL1 : W1.heap[w.heap.size + 1]? = some (.loop (rec .ready none)) := by
    rw [← hW1]; have := World.alloc_heap_new (w.alloc (.deferred (some []))) (.loop (rec .ready none)); rwa [World.size_alloc] at this
  have hD1 : W1.heap[w.heap.size]? = some (.deferred (some [])) := by
    rw [← hW1]; exact (Below.heap_alloc _ _ _ (by simp)).trans (World.alloc_heap_new w _)
  have hk1 : Kept All w W1 := by rw [← hW1]; exact ((Kept.refl _ _).alloc _).alloc _
  have hs1 : W1.heap.size = w.heap.size + 2 := by rw [← hW1]; simp
  refine ⟨w.heap.size + 1, [{ target := .collected w.heap.size, args := #[] }], W1, { target := .fn (.func gf) caps, args := #[.func (.yield (w.heap.size + 1)) #[] #[]] }, W1, gf,
    #[.func (.yield (w.heap.size + 1)) #[] #[]] ++ caps, W1, ?_, ?_, fun _ _ => trivial, ?_, (fun h => (by cases h)), ?_⟩
  · rw [← hW1, hrec]; exact run_enterLoop_outer _ _ _ _ _
  · simp only [resolve, hg]
    simp [go_sem]
  · simp [invoke, go_sem, eg]
  · refine callsIn_wide.2 ((hit (w.heap.size + 1)
      (fun pre W => I pre W ∧ W.heap[w.heap.size + 1]? = some (.loop (rec .ready none)) ∧ W.heap[w.heap.size]? = some (.deferred (some [])))
      (fun pre W => ∃ c, Ix c pre W ∧ W.heap[w.heap.size + 1]? = some (.loop (rec .done (some c))) ∧ W.heap[w.heap.size]? = some (.deferred (some [])))
      W1 hk1 ?_ ?_ ?_ ⟨hI _ _ _ h0 (Nat.le_refl _) hk1.all, hL1, hD1⟩).mono ?_)
    · rintro pre A B ⟨hi, hl, hd⟩ hA hk
      refine ⟨hI _ _ _ hi (by omega) (hk.mono fun k _ h => ⟨by omega, h.2⟩), hk.heap hl ⟨by omega, fun h => ?_⟩, hk.heap hd ⟨by omega, fun h => ?_⟩⟩ <;> (have := hM _ h; omega)
    · rintro pre A B ⟨c, hi, hl, hd⟩ hA hk
      refine ⟨c, hIx _ _ _ _ hi (by omega) (hk.mono fun k _ h => ⟨by omega, h.2⟩), hk.heap hl ⟨by omega, fun h => ?_⟩, hk.heap hd ⟨by omega, fun h => ?_⟩⟩ <;> (have := hM _ h; omega)
    · rintro pre x W ⟨hi, hl, hd⟩ hW hx
      have hy := run_yield (P := P) (args := encs x) hl (by rw [hrec]; exact hps x)
      rw [hrec] at hy
      refine ⟨fn, _, assign, body, hy, roundIn_of_wpIn trivial (wpIn_mono (hround _ pre x W (by omega) (by omega) ⟨_, hl⟩ hi hx) ?_)⟩
      clear hy
      rintro e0 a' W2 hp0
      cases e0 with
      | normal => ?_
      | ret => exact hp0.elim
      | exit id => exact hp0.elim
      | goto t => exact hp0.elim
      | panic ch => exact hp0.elim
      | outgrown => exact hp0.elim
      obtain ⟨hk2, hbody⟩ := hp0
      have hl2 := hk2.heap hl trivial
      have hd2 := hk2.heap hd trivial
      have hi2 := hI _ _ _ hi (by omega) hk2.all
      have hsz2 : W1.heap.size ≤ W2.heap.size := Nat.le_trans hW hk2.size
      refine ⟨_, run_beginRound hl2 (by rw [hrec]), ?_⟩
      obtain ⟨W3, hW3⟩ : ∃ W3, W2.putObj (w.heap.size + 1) (.loop { rec .ready none with state := .busy }) = W3 := ⟨_, rfl⟩
      have hk3 : Kept (fun k => k ≠ w.heap.size + 1) W2 W3 := by rw [← hW3]; exact (Kept.refl _ _).putObj (fun _ h => h rfl) _
      have hl3 : W3.heap[w.heap.size + 1]? = some (.loop { rec .ready none with state := .busy }) := by rw [← hW3]; exact World.putObj_heap_same (lt_of_heap hl2)
      have hd3 := hk3.heap hd2 (by omega)
      have hi3 := hI _ _ _ hi2 (by omega) (hk3.mono fun k _ h => by omega)
      rw [hW3]
      refine wpIn_mono (hbody W3 hk3 hi3) ?_
      have fin : ∀ (jump : Option Code) (W4 : World), Kept (fun k => S k ∨ w.heap.size ≤ k) W3 W4 →
          (Instr.endRound (w.heap.size + 1) jump).run P W4 = .ok (.bool jump.isNone) (W4.putObj (w.heap.size + 1) (.loop (rec (if jump.isNone then .ready else .done) jump))) ∧
          (W4.putObj (w.heap.size + 1) (.loop (rec (if jump.isNone then .ready else .done) jump))).heap[w.heap.size + 1]? = some (.loop (rec (if jump.isNone then .ready else .done) jump)) ∧
          (W4.putObj (w.heap.size + 1) (.loop (rec (if jump.isNone then .ready else .done) jump))).heap[w.heap.size]? = some (.deferred (some [])) ∧
          Kept (fun k => k < w.heap.size ∧ ¬ M k) W4 (W4.putObj (w.heap.size + 1) (.loop (rec (if jump.isNone then .ready else .done) jump))) ∧
          Kept (fun k => S k ∨ W1.heap.size ≤ k) W (W4.putObj (w.heap.size + 1) (.loop (rec (if jump.isNone then .ready else .done) jump))) := fun jump W4 hk4 => by
        have hl4 := hk4.heap hl3 (.inr (by omega))
        have hd4 := hk4.heap hd3 (.inr (Nat.le_refl _))
        have := run_endRound (P := P) jump hl4
        rw [hrec] at this ⊢
        refine ⟨this, World.putObj_heap_same (lt_of_heap hl4), (World.putObj_heap_other (by omega)).trans hd4, (Kept.refl _ _).putObj (fun _ h => by omega) _, ?_⟩
        have hne : ∀ k, (S k ∨ W1.heap.size ≤ k) → k ≠ w.heap.size + 1 := fun k h => by
          rcases h with h | h
          · have := hS _ h; omega
          · omega
        exact ((((hk2.all (S := fun k => S k ∨ W1.heap.size ≤ k)).trans (hk3.mono fun k _ h => hne k h)).trans (hk4.mono fun k _ h => h.imp id (fun h => by omega)))).putObj (fun _ h => hne _ h rfl) _
      rintro e a3 W4 hp
      cases e with
      | normal =>
        obtain ⟨hk4, hi4⟩ := hp
        obtain ⟨hr, hl5, hd5, hk5, hk6⟩ := fin none W4 hk4
        exact ⟨_, _, hr, .inl ⟨rfl, ⟨hI _ _ _ hi4 (by have := hk4.size; have := hk3.size; omega) hk5, hl5, hd5⟩, hk6⟩⟩
      | ret =>
        obtain ⟨hk4, hi4⟩ := hp
        obtain ⟨hr, hl5, hd5, hk5, hk6⟩ := fin (some .ret) W4 hk4
        exact ⟨_, _, hr, .inr ⟨rfl, ⟨.ret, hIx _ _ _ _ hi4 (by have := hk4.size; have := hk3.size; omega) hk5, hl5, hd5⟩, hk6⟩⟩
      | exit id =>
        obtain ⟨hk4, hi4⟩ := hp
        obtain ⟨hr, hl5, hd5, hk5, hk6⟩ := fin (some (.exit id)) W4 hk4
        exact ⟨_, _, hr, .inr ⟨rfl, ⟨.exit id, hIx _ _ _ _ hi4 (by have := hk4.size; have := hk3.size; omega) hk5, hl5, hd5⟩, hk6⟩⟩
      | goto t => exact hp.elim
      | panic ch => exact hp.elim
      | outgrown => exact hp.elim
    · rintro e W2 ⟨⟨v, rfl⟩, hsz, how, (⟨hi, hl, hd⟩ | ⟨pre, hpre, c, hi, hl, hd⟩)⟩
      · refine ⟨none, _, by have := run_endLoop (P := P) hl (by rw [hrec]; simp); rw [hrec] at this; exact this, hdone _ (by rw [World.putObj_size]; omega) (hOwn _ _ how ((Kept.refl _ _).putObj (fun _ h => by have := hM _ h; omega) _)) (hI _ _ _ hi (by omega) ((Kept.refl _ _).putObj (fun _ h => by omega) _)) ((World.putObj_heap_other (by omega)).trans hd)⟩
      · refine ⟨some c, _, by have := run_endLoop (P := P) hl (by rw [hrec]; simp); rw [hrec] at this; exact this, hstop _ _ _ (by rw [World.putObj_size]; omega) (hOwn _ _ how ((Kept.refl _ _).putObj (fun _ h => by have := hM _ h; omega) _)) hpre (hIx _ _ _ _ hi (by omega) ((Kept.refl _ _).putObj (fun _ h => by omega) _)) ((World.putObj_heap_other (by omega)).trans hd)⟩

/-- a function's way out over the marks of its ranges over functions -/
theorem leaves_marks {fn : Func} {tmps : Array Value} {R : Ending → World → Prop} : ∀ (Ds : List Nat) (w : World), (∀ D ∈ Ds, w.heap[D]? = some (.deferred (some []))) → Ds.Nodup →
    (∀ w', Kept (fun k => k ∉ Ds) w w' → LeavesInM Fence.wide 0 P fn tmps R [] .returning w') →
    LeavesInM Fence.wide 0 P fn tmps R (Ds.map fun D => { target := .collected D, args := #[] }) .returning w
  | [], w, _, _, h => h w (Kept.refl _ _)
  | D :: Ds, w, hd, hn, h => by
    have hD := hd D (by simp)
    rw [List.nodup_cons] at hn
    refine ⟨by simp, .inl ⟨D, _, rfl, run_takeDeferred hD, leaves_marks Ds _ (fun E hE => ?_) hn.2 (fun w' hk => h w' ?_)⟩⟩
    · have hne : E ≠ D := fun e => hn.1 (e ▸ hE)
      exact (World.putObj_heap_other hne).trans (hd E (by simp [hE]))
    · exact (((Kept.refl _ w).putObj (fun _ h => h (by simp)) _).trans (hk.mono fun k _ hk' => fun hm => hk' (by simp [hm])))

end
end Go.Proofs.Ytiajiahfmfckjaa
