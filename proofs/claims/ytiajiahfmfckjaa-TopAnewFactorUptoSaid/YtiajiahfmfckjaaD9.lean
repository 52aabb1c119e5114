/- Writing over a result: wipes. -/
import Derived.Test.YtiajiahfmfckjaaD8
namespace Go.Proofs.Ytiajiahfmfckjaa
open Go.RowKit
set_option maxRecDepth 10000

theorem wipeInt_any (a : Addr) (w : World) {x : Value} (hc : w.cell? a = some x) (hf : w.frozen? a = false) :
    Calls Try.prog 54 #[.pointer (some a)] w fun e w' => (∃ v, e = .returned v) ∧ w' = w.setCell a (.int .i64 (-77)) := by
  go_enter Try.func54, Try.ntmps54
  go_wp2_with fail
  go_end0
  exact ⟨⟨_, rfl⟩, rfl⟩

set_option maxHeartbeats 1000000 in
theorem wipes_any (base : Nat) (v : Value) (L : List Int) (w : World) (h : w.ownsRow base 3 1 v L.length (encN L)) :
    Calls Try.prog 53 #[v, .func (.func 54) #[] #[]] w fun e w' => (∃ v, e = .returned v) ∧ Kept (fun k => v.ownBlock ≠ some k) w w' := by
  have hm : L.length ≤ maxLen := by
    rcases h.2 with ⟨_, e⟩ | ⟨g, cap, cur, _, _, _, h1, h2, _⟩
    · rw [e]; exact Nat.zero_le _
    · omega
  unfold maxLen at hm
  obtain ⟨A, c, rfl, -⟩ := owns_nums h
  go_enter Try.func53, Try.ntmps53
  go_wp2_with fail
  go_loopw [4] (fun k wr => ∃ (j : Nat) (M : List Int), j ≤ L.length ∧ k = .int .i64 j ∧ wr.ownsRow base 3 1 (.slice A L.length c) L.length (encN M) ∧ Kept (fun k => (Value.slice A L.length c).ownBlock ≠ some k) w wr) (fun k _ => L.length - (intOf k).toNat)
  case atStart => exact ⟨0, L, by omega, rfl, h, Kept.refl _ _⟩
  case round =>
    obtain ⟨j, M, hj, rfl, ho, hk⟩ := hrel
    by_cases hlt : j < L.length
    · rcases id ho.2 with ⟨_, e⟩ | ⟨g, cap, cur, hv, hb, hg, -⟩
      · omega
      · injection hv with e1 _ e2
        subst e1 e2
        have hji : (j : Int) < (L.length : Int) := by omega
        have hlM : M.length = L.length := by simpa [encN] using ho.1
        have cj := ho.cellAt j (by omega)
        rw [show (encN M)[j]? = some (.int .i64 (ix M j)) by simp [encN, ix, hlM, hlt]] at cj
        have fj := ho.frozenAt j
        obtain ⟨ho', -⟩ := ho.stored j (.int .i64 (-77))
        clear ho hg
        go_wp2_with fail
        refine (wipeInt_any _ _ cj fj).mono ?_
        rintro e w' ⟨⟨v, rfl⟩, rfl⟩
        go_wp2_with fail
        go_roundw
        case rel =>
          refine ⟨j + 1, M.set j (-77), by omega, by go_num, by simpa [encN] using ho', hk.setCell (fun _ h => h (by simp [Value.ownBlock])) _⟩
        case measure => simp [intOf]; omega
    · obtain rfl : j = L.length := by omega
      go_wp2_with fail
      go_end0
      exact ⟨⟨_, rfl⟩, hk⟩

theorem wipeInts_any (base : Nat) (g : Nat) (v : Value) (L : List Int) (w : World) (hg : Blk w g 28 #[v]) (h : w.ownsRow base 3 1 v L.length (encN L)) :
    Calls Try.prog 27 #[ptr g] w fun e w' => (∃ v, e = .returned v) ∧ Kept (fun k => v.ownBlock ≠ some k) w w' := by
  have g0 := hg.at 0 rfl
  go_enter Try.func27, Try.ntmps27
  go_wp2_with fail
  refine (wipes_any base v L w h).mono ?_
  rintro e w' ⟨⟨x, rfl⟩, hk⟩
  go_wp2_with fail
  go_end0
  exact ⟨⟨_, rfl⟩, hk⟩
theorem wipe26_any (base : Nat) (g : Nat) (v : Value) (L : List Int) (w : World) (hg : Blk w g 28 #[v]) (h : w.ownsRow base 3 1 v L.length (encN L)) :
    Calls Try.prog 26 #[ptr g] w fun e w' => (∃ v, e = .returned v) ∧ Kept (fun k => v.ownBlock ≠ some k) w w' := by
  go_enter Try.func26, Try.ntmps26
  go_wp2_with fail
  refine (wipeInts_any base g v L w hg h).mono ?_
  rintro e w' ⟨⟨x, rfl⟩, hk⟩
  go_wp2_with fail
  go_end0
  exact ⟨⟨_, rfl⟩, hk⟩
theorem nothing_any (w : World) : Calls Try.prog 10 #[] w fun e w' => (∃ v, e = .returned v) ∧ w = w' := by
  go_enter Try.func10, Try.ntmps10
  go_wp2_with fail
  go_end0
  exact ⟨⟨_, rfl⟩, rfl⟩
end Go.Proofs.Ytiajiahfmfckjaa
