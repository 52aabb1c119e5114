/- Puts of lists. -/
import Derived.Test.YtiajiahfmfckjaaD2
namespace Go.Proofs.Ytiajiahfmfckjaa
open Go.RowKit
set_option maxRecDepth 10000

/-- the end of a statement h.n = append(h.n, x) -/
theorem append_nums {base hp g cap : Nat} {ns : List Int} {ss : List ByteArray} {v1 v2 : Value} {w w2 : World} {x : Int} {o : Obj} (h : HeapAt base w hp ns ss v1 v2)
    (hown : w2.ownsRow base 3 1 (.slice (some ⟨g, 0, none⟩) (ns.length + 1) cap) (ns.length + 1) (encN ns ++ [.int .i64 x])) (hgrow : (w.alloc o).grownBy w2 v1.ownBlock) (hat : v1.ownBlock = some g ∨ g = w.heap.size + 1) :
    HeapAt base (w2.setCell ⟨hp, 0, none⟩ (.slice (some ⟨g, 0, none⟩) (ns.length + 1) cap)) hp (ns ++ [x]) ss (.slice (some ⟨g, 0, none⟩) (ns.length + 1) cap) v2 ∧
    Kept (fun k => ¬ Foot hp v1 v2 k) w (w2.setCell ⟨hp, 0, none⟩ (.slice (some ⟨g, 0, none⟩) (ns.length + 1) cap)) ∧
    ∀ k, k < w.heap.size → Foot hp (.slice (some ⟨g, 0, none⟩) (ns.length + 1) cap) v2 k → Foot hp v1 v2 k := by
  have hkA : Kept (fun k => some k ≠ v1.ownBlock) w w2 := ((Kept.refl _ w).alloc _).grown hgrow (fun k hk _ hn => hn hk.symm)
  have B2 := h.blk.kept hkA (fun e => h.ne1 e.symm)
  have hkB : Kept (fun k => some k ≠ v1.ownBlock ∧ k ≠ hp) w (w2.setCell ⟨hp, 0, none⟩ (.slice (some ⟨g, 0, none⟩) (ns.length + 1) cap)) := (hkA.mono (fun k _ h => h.1)).setCell (fun _ h => h.2 rfl) _
  have hkC : Kept (fun k => k ≠ hp) w2 (w2.setCell ⟨hp, 0, none⟩ (.slice (some ⟨g, 0, none⟩) (ns.length + 1) cap)) := (Kept.refl _ _).setCell (fun _ h => h rfl) _
  have hlt := h.blk.lt
  have hgne : g ≠ hp := by
    rcases hat with e | e
    · intro e2; exact h.ne1 (e.trans (by rw [e2]))
    · omega
  refine ⟨⟨B2.set 0 _, ?_, owns_kept h.txts hkB (fun q hq => ⟨fun e => h.ne3 q e.symm hq, fun e => h.ne2 (by rw [hq, e])⟩), ?_, h.ne2, ?_, Nat.le_trans h.hbase hkB.size⟩, hkB.mono fun k _ hk => ⟨fun e => hk (.inr (.inl e.symm)), fun e => hk (.inl e)⟩, fun k hk hf => ?_⟩
  · have := owns_kept hown hkC (fun q hq => by simp [Value.ownBlock] at hq; omega)
    simpa using this
  · simp [Value.ownBlock]; exact hgne
  · intro q hq
    simp [Value.ownBlock] at hq
    subst hq
    rcases hat with e | e
    · exact h.ne3 _ e
    · intro e2; have := (owns_lt h.txts e2).2; omega
  · rcases hf with e | e | e
    · exact .inl e
    · simp [Value.ownBlock] at e
      subst e
      rcases hat with e | e
      · exact .inr (.inl e)
      · omega
    · exact .inr (.inr e)

set_option maxHeartbeats 1000000 in
theorem putInts_any {base hp : Nat} {ns : List Int} {ss : List ByteArray} {v1 v2 : Value} {w : World} (h : HeapAt base w hp ns ss v1 v2) (A : Option Addr) (l : List Int) (c : Nat) (hA : Nums w A l.length (ix l)) (hd : ∀ b off, A = some ⟨b, off, none⟩ → 0 < l.length → ¬ Foot hp v1 v2 b)
    (hl : ns.length + l.length + 1 ≤ 1000000000000) :
    Calls Try.prog 52 #[ptr hp, .slice A l.length c, .func (.func 8) #[] #[]] w (Puts base hp v1 v2 w (ns ++ (l.length : Int) :: l) ss) := by
  have h0 := h.blk.at 0 rfl
  have h1 := h.blk.at 1 rfl
  have hz := h.blk.frozen 0
  have hlt := h.blk.lt
  obtain ⟨i0, hi, hz0, hz1, hz2⟩ := info_parts info3
  go_enter Try.func52, Try.ntmps52
  go_wp2_with (at_builtin; refine wpList_append_lies _ rfl _ _ 28 rfl base 3 i0 (.int .i64 0) 1 8 Try.underlying28 hi hz0 hz1 hz2 rfl (by decide) v1 ns.length (encN ns) rfl (h.nums.alloc _) ⟨w.heap.size, 0, none⟩ 1 1 [.int .i64 l.length] rfl rfl (cell_one_new _ _ _) (ints_oneCell .i64 [(l.length : Int)]) (by decide) (by unfold maxLen; omega) (by omega) (by have := h.hbase; simp; omega) _ rfl ?_; intro g cap w2 hown hgrow hat hlt2; have hkA : Kept (fun k => some k ≠ v1.ownBlock) w w2 := ((Kept.refl _ w).alloc _).grown hgrow (fun k hk _ hn => hn hk.symm); have B2 := h.blk.kept hkA (fun e => h.ne1 e.symm); have b0 := B2.at 0 rfl; have bz := B2.frozen 0)
  obtain ⟨HA, HK, HF⟩ := append_nums (x := (l.length : Int)) h hown hgrow (by simpa using hat)
  generalize w2.setCell ⟨hp, 0, none⟩ (.slice (some ⟨g, 0, none⟩) (ns.length + 1) cap) = w3 at HA HK HF ⊢
  clear b0 bz B2 hkA hat hgrow hown hlt2 h0 h1 hz hlt
  go_loopw [6] (fun k wr => ∃ j : Nat, j ≤ l.length ∧ k = .int .i64 j ∧ ∃ u1 u2, HeapAt base wr hp (ns ++ (l.length : Int) :: l.take j) ss u1 u2 ∧ Kept (fun k => ¬ Foot hp v1 v2 k) w wr ∧ ∀ k, k < w.heap.size → Foot hp u1 u2 k → Foot hp v1 v2 k) (fun k _ => l.length - (intOf k).toNat)
  case atStart => exact ⟨0, by omega, rfl, _, _, by simpa using HA, HK, HF⟩
  case round =>
    obtain ⟨j, hj, rfl, u1, u2, hh, hk, hf⟩ := hrel
    by_cases hlj : j < l.length
    · obtain ⟨b, off, rfl, hc⟩ := hA (by omega)
      have cj := hk.cell (hc j hlj) (hd b off rfl (by omega))
      have hji : (j : Int) < (l.length : Int) := by omega
      go_wp2_with fail
      refine (putInt_any hh (ix l j) (by simp; omega)).mono ?_
      rintro e w4 hp4
      obtain ⟨v', rfl⟩ := hp4.1
      obtain ⟨-, t1, t2, h4, hk4, hf4⟩ := Puts.trans hk hf hp4
      have hst : ns ++ (l.length : Int) :: l.take (j + 1) = ns ++ (l.length : Int) :: l.take j ++ [ix l j] := by
        rw [List.take_succ_eq_append_getElem hlj]; simp [ix, hlj]
      rw [← hst] at h4
      go_wp2_with fail
      go_roundw
      case rel => exact ⟨j + 1, by omega, by go_num, t1, t2, h4, hk4, hf4⟩
      case measure => simp [intOf]; omega
    · obtain rfl : j = l.length := by omega
      go_wp2_with fail
      go_end0
      exact ⟨⟨_, rfl⟩, u1, u2, by simpa using hh, hk, hf⟩

theorem puts25_any {base hp : Nat} {ns : List Int} {ss : List ByteArray} {v1 v2 : Value} {w : World} (h : HeapAt base w hp ns ss v1 v2) (A : Option Addr) (l : List Int) (c : Nat) (hA : Nums w A l.length (ix l)) (hd : ∀ b off, A = some ⟨b, off, none⟩ → 0 < l.length → ¬ Foot hp v1 v2 b)
    (hl : ns.length + l.length + 1 ≤ 1000000000000) :
    Calls Try.prog 25 #[ptr hp, .slice A l.length c] w (Puts base hp v1 v2 w (ns ++ (l.length : Int) :: l) ss) := by
  go_enter Try.func25, Try.ntmps25
  go_wp2_with fail
  refine (putInts_any h A l c hA hd hl).mono ?_
  rintro e w' hp'
  obtain ⟨v, rfl⟩ := hp'.1
  go_wp2_with fail
  go_end0
  exact ⟨⟨_, rfl⟩, hp'.2⟩
end Go.Proofs.Ytiajiahfmfckjaa
