/- Top's heap of numbers and texts: what puts do to it. -/
import Derived.Test.YtiajiahfmfckjaaC18
import Derived.Deep.AppendLies
namespace Go.Proofs.Ytiajiahfmfckjaa
open Go.RowKit
set_option maxRecDepth 10000

abbrev encN (ns : List Int) : List Value := ns.map (Value.int .i64)
abbrev encT' (ss : List ByteArray) : List Value := ss.map Value.string

/-- a heap of topanew: its struct is block hp, its rows lie from base on -/
structure HeapAt (base : Nat) (w : World) (hp : Nat) (ns : List Int) (ss : List ByteArray) (v1 v2 : Value) : Prop where
  blk : Blk w hp 31 #[v1, v2]
  nums : w.ownsRow base 3 1 v1 ns.length (encN ns)
  txts : w.ownsRow base 9 1 v2 ss.length (encT' ss)
  ne1 : v1.ownBlock ≠ some hp
  ne2 : v2.ownBlock ≠ some hp
  ne3 : ∀ g, v1.ownBlock = some g → v2.ownBlock ≠ some g
  hbase : base ≤ w.heap.size

/-- the blocks of a heap -/
def Foot (hp : Nat) (v1 v2 : Value) (k : Nat) : Prop := k = hp ∨ v1.ownBlock = some k ∨ v2.ownBlock = some k
/-- what a put comes to: it writes the heap's own blocks alone, and those it has afterwards are they, or new -/
def Puts (base hp : Nat) (v1 v2 : Value) (w : World) (ns : List Int) (ss : List ByteArray) (e : Ending) (w' : World) : Prop :=
  (∃ v, e = .returned v) ∧ ∃ u1 u2, HeapAt base w' hp ns ss u1 u2 ∧ Kept (fun k => ¬ Foot hp v1 v2 k) w w' ∧ ∀ k, k < w.heap.size → Foot hp u1 u2 k → Foot hp v1 v2 k

theorem info3 : (Try.prog.info? 3).map (fun i => (i.zero, i.size, i.bytes)) = some (some (.int .i64 0), 1, 8) := by kernel_rfl
theorem info9 : (Try.prog.info? 9).map (fun i => (i.zero, i.size, i.bytes)) = some (some (.string ByteArray.empty), 1, 16) := by kernel_rfl

theorem owns_kept {S : Nat → Prop} {w w' : World} {base : Nat} {e : TypeId} {size : Nat} {v : Value} {n : Nat} {xs : List Value} (h : w.ownsRow base e size v n xs) (hk : Kept S w w') (hS : ∀ g, v.ownBlock = some g → S g) : w'.ownsRow base e size v n xs := by
  refine ⟨h.1, ?_⟩
  rcases h.2 with hn | ⟨g, cap, cur, rfl, hb, hgg, rest⟩
  · exact .inl hn
  · exact .inr ⟨g, cap, cur, rfl, hb, hk.heap hgg (hS g rfl), rest⟩
theorem owns_lt {w : World} {base : Nat} {e : TypeId} {size : Nat} {v : Value} {n : Nat} {xs : List Value} (h : w.ownsRow base e size v n xs) {g : Nat} (hg : v.ownBlock = some g) : base ≤ g ∧ g < w.heap.size := by
  rcases h.2 with ⟨hn, _⟩ | ⟨g', cap, cur, rfl, hb, hgg, rest⟩
  · subst hn; simp [Value.ownBlock] at hg
  · simp [Value.ownBlock] at hg; subst hg; exact ⟨hb, lt_of_heap hgg⟩

set_option maxHeartbeats 1000000 in
theorem putInt_any {base hp : Nat} {ns : List Int} {ss : List ByteArray} {v1 v2 : Value} {w : World} (h : HeapAt base w hp ns ss v1 v2) (x : Int) (hl : ns.length ≤ 1000000000000) :
    Calls Try.prog 8 #[ptr hp, .int .i64 x] w (Puts base hp v1 v2 w (ns ++ [x]) ss) := by
  have h0 := h.blk.at 0 rfl
  have h1 := h.blk.at 1 rfl
  have hz := h.blk.frozen 0
  have hlt := h.blk.lt
  obtain ⟨i0, hi, hz0, hz1, hz2⟩ := info_parts info3
  go_enter Try.func8, Try.ntmps8
  go_wp2_with (at_builtin; refine wpList_append_lies _ rfl _ _ 28 rfl base 3 i0 (.int .i64 0) 1 8 Try.underlying28 hi hz0 hz1 hz2 rfl (by decide) v1 ns.length (encN ns) rfl (h.nums.alloc _) ⟨w.heap.size, 0, none⟩ 1 1 [.int .i64 x] rfl rfl (cell_one_new _ _ _) (ints_oneCell .i64 [x]) (by decide) (by unfold maxLen; omega) (by omega) (by have := h.hbase; simp; omega) _ rfl ?_; intro g cap w2 hown hgrow hat hlt2; have hkA : Kept (fun k => some k ≠ v1.ownBlock) w w2 := ((Kept.refl _ w).alloc _).grown hgrow (fun k hk _ hn => hn hk.symm); have B2 := h.blk.kept hkA (fun e => h.ne1 e.symm); have b0 := B2.at 0 rfl; have bz := B2.frozen 0)
  have hkB : Kept (fun k => some k ≠ v1.ownBlock ∧ k ≠ hp) w (w2.setCell ⟨hp, 0, none⟩ (.slice (some ⟨g, 0, none⟩) (ns.length + 1) cap)) := (hkA.mono (fun k _ h => h.1)).setCell (fun _ h => h.2 rfl) _
  have hkC : Kept (fun k => k ≠ hp) w2 (w2.setCell ⟨hp, 0, none⟩ (.slice (some ⟨g, 0, none⟩) (ns.length + 1) cap)) := (Kept.refl _ _).setCell (fun _ h => h rfl) _
  have hgne : g ≠ hp := by
    rcases hat with e | e
    · intro e2; exact h.ne1 (e.trans (by rw [e2]))
    · simp at e; omega
  go_end0
  refine ⟨⟨_, rfl⟩, .slice (some ⟨g, 0, none⟩) (ns.length + 1) cap, v2, ⟨B2.set 0 _, ?_, owns_kept h.txts hkB (fun q hq => ⟨fun e => h.ne3 q e.symm hq, fun e => h.ne2 (by rw [hq, e])⟩), ?_, h.ne2, ?_, Nat.le_trans h.hbase hkB.size⟩, hkB.mono fun k _ hk => ⟨fun e => hk (.inr (.inl e.symm)), fun e => hk (.inl e)⟩, fun k hk hf => ?_⟩
  · have := owns_kept hown hkC (fun q hq => by simp [Value.ownBlock] at hq; omega)
    simpa using this
  · simp [Value.ownBlock]; exact hgne
  · intro q hq
    simp [Value.ownBlock] at hq
    subst hq
    rcases hat with e | e
    · exact h.ne3 _ e
    · intro e2; have := (owns_lt h.txts e2).2; simp at e; omega
  · rcases hf with e | e | e
    · exact .inl e
    · simp [Value.ownBlock] at e
      subst e
      rcases hat with e | e
      · exact .inr (.inl e)
      · simp at e; omega
    · exact .inr (.inr e)
set_option maxHeartbeats 1000000 in
theorem putErrno_any {base hp : Nat} {ns : List Int} {ss : List ByteArray} {v1 v2 : Value} {w : World} (h : HeapAt base w hp ns ss v1 v2) (x : Int) (hl : ns.length ≤ 1000000000000) :
    Calls Try.prog 9 #[ptr hp, .int .i64 x] w (Puts base hp v1 v2 w (ns ++ [x]) ss) := by
  have h0 := h.blk.at 0 rfl
  have h1 := h.blk.at 1 rfl
  have hz := h.blk.frozen 0
  have hlt := h.blk.lt
  obtain ⟨i0, hi, hz0, hz1, hz2⟩ := info_parts info3
  go_enter Try.func9, Try.ntmps9
  go_wp2_with (at_builtin; refine wpList_append_lies _ rfl _ _ 28 rfl base 3 i0 (.int .i64 0) 1 8 Try.underlying28 hi hz0 hz1 hz2 rfl (by decide) v1 ns.length (encN ns) rfl (h.nums.alloc _) ⟨w.heap.size, 0, none⟩ 1 1 [.int .i64 x] rfl rfl (cell_one_new _ _ _) (ints_oneCell .i64 [x]) (by decide) (by unfold maxLen; omega) (by omega) (by have := h.hbase; simp; omega) _ rfl ?_; intro g cap w2 hown hgrow hat hlt2; have hkA : Kept (fun k => some k ≠ v1.ownBlock) w w2 := ((Kept.refl _ w).alloc _).grown hgrow (fun k hk _ hn => hn hk.symm); have B2 := h.blk.kept hkA (fun e => h.ne1 e.symm); have b0 := B2.at 0 rfl; have bz := B2.frozen 0)
  have hkB : Kept (fun k => some k ≠ v1.ownBlock ∧ k ≠ hp) w (w2.setCell ⟨hp, 0, none⟩ (.slice (some ⟨g, 0, none⟩) (ns.length + 1) cap)) := (hkA.mono (fun k _ h => h.1)).setCell (fun _ h => h.2 rfl) _
  have hkC : Kept (fun k => k ≠ hp) w2 (w2.setCell ⟨hp, 0, none⟩ (.slice (some ⟨g, 0, none⟩) (ns.length + 1) cap)) := (Kept.refl _ _).setCell (fun _ h => h rfl) _
  have hgne : g ≠ hp := by
    rcases hat with e | e
    · intro e2; exact h.ne1 (e.trans (by rw [e2]))
    · simp at e; omega
  go_end0
  refine ⟨⟨_, rfl⟩, .slice (some ⟨g, 0, none⟩) (ns.length + 1) cap, v2, ⟨B2.set 0 _, ?_, owns_kept h.txts hkB (fun q hq => ⟨fun e => h.ne3 q e.symm hq, fun e => h.ne2 (by rw [hq, e])⟩), ?_, h.ne2, ?_, Nat.le_trans h.hbase hkB.size⟩, hkB.mono fun k _ hk => ⟨fun e => hk (.inr (.inl e.symm)), fun e => hk (.inl e)⟩, fun k hk hf => ?_⟩
  · have := owns_kept hown hkC (fun q hq => by simp [Value.ownBlock] at hq; omega)
    simpa using this
  · simp [Value.ownBlock]; exact hgne
  · intro q hq
    simp [Value.ownBlock] at hq
    subst hq
    rcases hat with e | e
    · exact h.ne3 _ e
    · intro e2; have := (owns_lt h.txts e2).2; simp at e; omega
  · rcases hf with e | e | e
    · exact .inl e
    · simp [Value.ownBlock] at e
      subst e
      rcases hat with e | e
      · exact .inr (.inl e)
      · simp at e; omega
    · exact .inr (.inr e)

set_option maxHeartbeats 1000000 in
theorem putText_any {base hp : Nat} {ns : List Int} {ss : List ByteArray} {v1 v2 : Value} {w : World} (h : HeapAt base w hp ns ss v1 v2) (x : ByteArray) (hl : ss.length ≤ 1000000000000) :
    Calls Try.prog 80 #[ptr hp, .string x] w (Puts base hp v1 v2 w ns (ss ++ [x])) := by
  have h0 := h.blk.at 0 rfl
  have h1 := h.blk.at 1 rfl
  have hz := h.blk.frozen 1
  have hlt := h.blk.lt
  obtain ⟨i0, hi, hz0, hz1, hz2⟩ := info_parts info9
  go_enter Try.func80, Try.ntmps80
  go_wp2_with (at_builtin; refine wpList_append_lies _ rfl _ _ 29 rfl base 9 i0 (.string ByteArray.empty) 1 16 Try.underlying29 hi hz0 hz1 hz2 rfl (by decide) v2 ss.length (encT' ss) rfl (h.txts.alloc _) ⟨w.heap.size, 0, none⟩ 1 1 [.string x] rfl rfl (cell_one_new _ _ _) (by intro q hq; simp at hq; subst hq; rfl) (by decide) (by unfold maxLen; omega) (by omega) (by have := h.hbase; simp; omega) _ rfl ?_; intro g cap w2 hown hgrow hat hlt2; have hkA : Kept (fun k => some k ≠ v2.ownBlock) w w2 := ((Kept.refl _ w).alloc _).grown hgrow (fun k hk _ hn => hn hk.symm); have B2 := h.blk.kept hkA (fun e => h.ne2 e.symm); have b0 := B2.at 1 rfl; have bz := B2.frozen 1)
  have hkB : Kept (fun k => some k ≠ v2.ownBlock ∧ k ≠ hp) w (w2.setCell ⟨hp, 1, none⟩ (.slice (some ⟨g, 0, none⟩) (ss.length + 1) cap)) := (hkA.mono (fun k _ h => h.1)).setCell (fun _ h => h.2 rfl) _
  have hkC : Kept (fun k => k ≠ hp) w2 (w2.setCell ⟨hp, 1, none⟩ (.slice (some ⟨g, 0, none⟩) (ss.length + 1) cap)) := (Kept.refl _ _).setCell (fun _ h => h rfl) _
  have hgne : g ≠ hp := by
    rcases hat with e | e
    · intro e2; exact h.ne2 (e.trans (by rw [e2]))
    · simp at e; omega
  go_end0
  refine ⟨⟨_, rfl⟩, v1, .slice (some ⟨g, 0, none⟩) (ss.length + 1) cap, ⟨B2.set 1 _, owns_kept h.nums hkB (fun q hq => ⟨fun e => h.ne3 q hq e.symm, fun e => h.ne1 (by rw [hq, e])⟩), ?_, h.ne1, ?_, ?_, Nat.le_trans h.hbase hkB.size⟩, hkB.mono fun k _ hk => ⟨fun e => hk (.inr (.inr e.symm)), fun e => hk (.inl e)⟩, fun k hk hf => ?_⟩
  · have := owns_kept hown hkC (fun q hq => by simp [Value.ownBlock] at hq; omega)
    simpa using this
  · simp [Value.ownBlock]; exact hgne
  · intro q hq hq2
    simp [Value.ownBlock] at hq2
    subst hq2
    rcases hat with e | e
    · exact h.ne3 _ hq e
    · have := (owns_lt h.nums hq).2; simp at e; omega
  · rcases hf with e | e | e
    · exact .inl e
    · exact .inr (.inl e)
    · simp [Value.ownBlock] at e
      subst e
      rcases hat with e | e
      · exact .inr (.inr e)
      · simp at e; omega

end Go.Proofs.Ytiajiahfmfckjaa
