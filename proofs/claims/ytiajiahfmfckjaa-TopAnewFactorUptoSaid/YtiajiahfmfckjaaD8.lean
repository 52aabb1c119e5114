/- same: two heaps of the same numbers and texts. -/
import Derived.Test.YtiajiahfmfckjaaD7
namespace Go.Proofs.Ytiajiahfmfckjaa
open Go.RowKit
set_option maxRecDepth 10000

def Txts (w : World) (A : Option Addr) (n : Nat) (f : Nat → ByteArray) : Prop :=
  0 < n → ∃ b off, A = some ⟨b, off, none⟩ ∧ ∀ i, i < n → w.cell? ⟨b, off + i, none⟩ = some (.string (f i))
theorem Txts.kept {S : Nat → Prop} {w w' : World} {A : Option Addr} {n : Nat} {f : Nat → ByteArray} (h : Txts w A n f) (hk : Kept S w w') (hS : ∀ k, k < w.heap.size → S k) : Txts w' A n f := fun hn => by
  obtain ⟨b, off, hA, hc⟩ := h hn
  exact ⟨b, off, hA, fun i hi => hk.cell (hc i hi) (hS _ (lt_of_cell (hc i hi)))⟩
def tx (ss : List ByteArray) (i : Nat) : ByteArray := ss.getD i ByteArray.empty

theorem owns_nums {w : World} {base : Nat} {v : Value} {ns : List Int} (h : w.ownsRow base 3 1 v ns.length (encN ns)) : ∃ A c, v = .slice A ns.length c ∧ Nums w A ns.length (ix ns) := by
  rcases h.2 with ⟨rfl, hz⟩ | ⟨g, cap, cur, rfl, -⟩
  · exact ⟨none, 0, by rw [hz], fun hn => by omega⟩
  · refine ⟨_, _, rfl, fun _ => ⟨g, 0, rfl, fun i hi => ?_⟩⟩
    rw [Nat.zero_add, h.cellAt i (by omega)]
    simp [encN, ix, hi]
theorem owns_txts {w : World} {base : Nat} {v : Value} {ss : List ByteArray} (h : w.ownsRow base 9 1 v ss.length (encT' ss)) : ∃ A c, v = .slice A ss.length c ∧ Txts w A ss.length (tx ss) := by
  rcases h.2 with ⟨rfl, hz⟩ | ⟨g, cap, cur, rfl, -⟩
  · exact ⟨none, 0, by rw [hz], fun hn => by omega⟩
  · refine ⟨_, _, rfl, fun _ => ⟨g, 0, rfl, fun i hi => ?_⟩⟩
    rw [Nat.zero_add, h.cellAt i (by omega)]
    simp [encT', tx, hi]

set_option maxHeartbeats 2000000 in
theorem same_lists (ns : List Int) (ss : List ByteArray) (hn : ns.length ≤ 1000000000000) (hs : ss.length ≤ 1000000000000) (A B C D : Option Addr) (a b c d : Nat) (w : World)
    (h1 : Nums w A ns.length (ix ns)) (h2 : Txts w B ss.length (tx ss)) (h3 : Nums w C ns.length (ix ns)) (h4 : Txts w D ss.length (tx ss)) :
    Calls Try.prog 28 #[.agg #[.slice A ns.length a, .slice B ss.length b], .agg #[.slice C ns.length c, .slice D ss.length d]] w fun e w' => e = .returned (.bool true) ∧ Kept All w w' := by
  go_enter Try.func28, Try.ntmps28
  go_wp2_with fail
  have hk0 : Kept All w ((w.alloc (.cells #[.slice A ns.length a, .slice B ss.length b] 31)).alloc (.cells #[.slice C ns.length c, .slice D ss.length d] 31)) := ((Kept.refl _ _).alloc _).alloc _
  have P1 : Blk ((w.alloc (.cells #[.slice A ns.length a, .slice B ss.length b] 31)).alloc (.cells #[.slice C ns.length c, .slice D ss.length d] 31)) w.heap.size 31 #[.slice A ns.length a, .slice B ss.length b] := (Blk.new _ _ _).alloc _
  have P2 : Blk ((w.alloc (.cells #[.slice A ns.length a, .slice B ss.length b] 31)).alloc (.cells #[.slice C ns.length c, .slice D ss.length d] 31)) (w.heap.size + 1) 31 #[.slice C ns.length c, .slice D ss.length d] := Blk.new' _ _ (by simp)
  generalize (w.alloc (.cells #[.slice A ns.length a, .slice B ss.length b] 31)).alloc (.cells #[.slice C ns.length c, .slice D ss.length d] 31) = W at *
  go_loopw [5] (fun k wr => ∃ j : Nat, j ≤ ns.length ∧ k = .int .i64 j ∧ Kept All W wr) (fun k _ => ns.length - (intOf k).toNat)
  case atStart => exact ⟨0, by omega, rfl, Kept.refl _ _⟩
  case round =>
    obtain ⟨j, hj, rfl, hk⟩ := hrel
    have q1 := P1.kept hk trivial
    have q2 := P2.kept hk trivial
    have a0 := q1.at 0 rfl
    have a1 := q1.at 1 rfl
    have b0 := q2.at 0 rfl
    have b1 := q2.at 1 rfl
    by_cases hlt : j < ns.length
    · obtain ⟨p, po, rfl, hp⟩ := h1 (by omega)
      obtain ⟨q, qo, rfl, hq⟩ := h3 (by omega)
      have cp := (hk0.trans hk).cell (hp j hlt) trivial
      have cq := (hk0.trans hk).cell (hq j hlt) trivial
      have hji : (j : Int) < (ns.length : Int) := by omega
      go_wp2_with fail
      go_quiet (fail)
      go_wp2_with fail
      go_roundw
      case rel => exact ⟨j + 1, by omega, by go_num, hk.drewN _⟩
      case measure => simp [intOf]; omega
    · obtain rfl : j = ns.length := by omega
      clear h1 h3
      go_wp2_with fail
      obtain ⟨wo, rfl⟩ : ∃ wo : World, wo = wr := ⟨_, rfl⟩
      go_loopw [6] (fun k wr => ∃ j : Nat, j ≤ ss.length ∧ k = .int .i64 j ∧ Kept All W wr) (fun k _ => ss.length - (intOf k).toNat)
      case atStart => exact ⟨0, by omega, rfl, hk⟩
      case round =>
        obtain ⟨j, hj, rfl, hk⟩ := hrel
        have q1 := P1.kept hk trivial
        have q2 := P2.kept hk trivial
        have a0 := q1.at 0 rfl
        have a1 := q1.at 1 rfl
        have b0 := q2.at 0 rfl
        have b1 := q2.at 1 rfl
        by_cases hlt : j < ss.length
        · obtain ⟨p, po, rfl, hp⟩ := h2 (by omega)
          obtain ⟨q, qo, rfl, hq⟩ := h4 (by omega)
          have cp := (hk0.trans hk).cell (hp j hlt) trivial
          have cq := (hk0.trans hk).cell (hq j hlt) trivial
          have hji : (j : Int) < (ss.length : Int) := by omega
          go_wp2_with fail
          go_quiet (fail)
          go_wp2_with fail
          go_roundw
          case rel => exact ⟨j + 1, by omega, by go_num, hk.drewN _⟩
          case measure => simp [intOf]; omega
        · obtain rfl : j = ss.length := by omega
          go_wp2_with fail
          go_ret
          exact ⟨rfl, hk0.trans hk⟩

theorem same_any {b1 b2 p1 p2 : Nat} {w : World} {ns : List Int} {ss : List ByteArray} {v1 v2 u1 u2 : Value} (hn : ns.length ≤ 1000000000000) (hs : ss.length ≤ 1000000000000) (h1 : HeapAt b1 w p1 ns ss v1 v2) (h2 : HeapAt b2 w p2 ns ss u1 u2) :
    Calls Try.prog 28 #[.agg #[v1, v2], .agg #[u1, u2]] w fun e w' => e = .returned (.bool true) ∧ Kept All w w' := by
  obtain ⟨A, a, rfl, hA⟩ := owns_nums h1.nums
  obtain ⟨B, b, rfl, hB⟩ := owns_txts h1.txts
  obtain ⟨C, c, rfl, hC⟩ := owns_nums h2.nums
  obtain ⟨D, d, rfl, hD⟩ := owns_txts h2.txts
  exact same_lists ns ss hn hs A B C D a b c d w hA hB hC hD
end Go.Proofs.Ytiajiahfmfckjaa
