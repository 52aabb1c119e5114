/- The walk of Ints: are two lists of numbers the same? -/
import Derived.Test.YtiajiahfmfckjaaE4
namespace Go.Proofs.Ytiajiahfmfckjaa
open Go.RowKit
set_option maxRecDepth 10000

theorem list_eq_of_ix {L M : List Int} (hl : L.length = M.length) (h : ∀ k, k < L.length → ix L k = ix M k) : L = M := by
  refine List.ext_getElem hl fun k h1 h2 => ?_
  have := h k h1
  simpa [ix, h1, h2] using this

set_option maxHeartbeats 1000000 in
theorem ints_any (L M : List Int) (A B : Option Addr) (c d : Nat) (w : World) (hA : Nums w A L.length (ix L)) (hB : Nums w B M.length (ix M)) (hl : L.length ≤ 1000000000000) (hm : M.length ≤ 1000000000000) :
    Calls Try.prog 58 #[.slice A L.length c, .slice B M.length d] w fun e w' => e = .returned (.bool (decide (L = M))) ∧ Kept All w w' := by
  go_enter Try.func58, Try.ntmps58
  obtain ⟨s0, hs0⟩ : ∃ s0, ((L.length : Int) == (M.length : Int)) = s0 := ⟨_, rfl⟩
  have HS : Hid (s0 = decide (L.length = M.length)) := Lib.hid (by rw [← hs0]; rw [Bool.eq_iff_iff]; simp; omega)
  go_wp2_with fail
  clear hs0
  go_loopw [5, 6] (fun ts tj wr => ∃ (s : Bool) (j : Nat), j ≤ L.length ∧ ts = .bool s ∧ tj = .int .i64 j ∧ Kept All w wr ∧ Hid (if s then L.length = M.length ∧ ∀ k, k < j → ix L k = ix M k else L ≠ M)) (fun _ tj _ => L.length - (intOf tj).toNat)
  case atStart =>
    refine ⟨s0, 0, by omega, rfl, rfl, Kept.refl _ _, ?_⟩
    rw [HS.out]
    by_cases h : L.length = M.length
    · simp only [h, decide_true, if_true]; exact ⟨trivial, fun k hk => by omega⟩
    · simp only [h, decide_false]; exact fun e => h (by rw [e])
  case round =>
    obtain ⟨s, j, hj, rfl, rfl, hk, hR⟩ := hrel
    cases s with
    | false =>
      go_wp2_with fail
      go_ret
      have : L ≠ M := by simpa using hR.out
      exact ⟨by simp [this], hk⟩
    | true =>
      have hR2 : L.length = M.length ∧ ∀ k, k < j → ix L k = ix M k := by simpa using hR.out
      by_cases hlt : j < L.length
      · have hji : (j : Int) < (L.length : Int) := by omega
        obtain ⟨ab, ao, rfl, ha⟩ := hA (by omega)
        obtain ⟨bb, bo, rfl, hb⟩ := hB (by omega)
        have ca := hk.cell (ha j hlt) trivial
        have cb := hk.cell (hb j (by omega)) trivial
        have hjm : (j : Int) < (M.length : Int) := by omega
        have HL := Lib.hid hR2
        obtain ⟨x, hx⟩ : ∃ x, ix L j = x := ⟨_, rfl⟩
        obtain ⟨y, hy⟩ : ∃ y, ix M j = y := ⟨_, rfl⟩
        rw [hx] at ca
        rw [hy] at cb
        have HX := Lib.hid hx
        have HY := Lib.hid hy
        clear hx hy hR2 hR
        go_wp2_with fail
        go_quiet (fail)
        go_wp2_with fail
        refine ⟨⟨x == y, j + 1, by omega, rfl, by go_num, hk.drewN _, ?_⟩, by simp only [intOf]; omega⟩
        obtain ⟨h1, h2⟩ := HL.out
        by_cases hxy : x = y
        · have : (x == y) = true := by simp [hxy]
          rw [this]
          exact ⟨h1, fun k hk => by
            by_cases e : k = j
            · rw [e, HX.out, HY.out, hxy]
            · exact h2 k (by omega)⟩
        · have : (x == y) = false := by simp [hxy]
          rw [this]
          exact fun e => hxy (by rw [← HX.out, ← HY.out, e])
      · obtain rfl : j = L.length := by omega
        go_wp2_with fail
        go_ret
        exact ⟨by simp [list_eq_of_ix hR2.1 hR2.2], hk⟩
end Go.Proofs.Ytiajiahfmfckjaa
