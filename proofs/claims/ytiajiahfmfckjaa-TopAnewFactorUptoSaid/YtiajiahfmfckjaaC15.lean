/- The walks of package factor's low and less. -/
import Derived.Test.YtiajiahfmfckjaaC14
namespace Go.Proofs.Ytiajiahfmfckjaa
open Go.RowKit
set_option maxRecDepth 10000

def gcdI (m n : Int) : Nat := Nat.gcd m.toNat n.toNat
def lowI (m n : Int) : Int × Int := (((m.toNat / gcdI m n : Nat) : Int), ((n.toNat / gcdI m n : Nat) : Int))
def lessI (p q : Int × Int) : Bool := decide (wrap64 (p.1 * q.2) < wrap64 (q.1 * p.2))

theorem less_any (p q : Int × Int) (w : World) : Calls Try.prog 47 #[sV p, sV q] w fun e w' => e = .returned (.bool (lessI p q)) ∧ Kept All w w' := by
  go_enter Try.func47, Try.ntmps47
  go_wp2
  go_ret
  exact ⟨rfl, ((Kept.refl _ _).alloc _).alloc _⟩

set_option maxHeartbeats 1000000 in
theorem low_any (m n : Nat) (h1 : 1 ≤ m) (h2 : m ≤ 1000000000) (h3 : n ≤ 1000000000) (w : World) :
    Calls Try.prog 46 #[.int .i64 m, .int .i64 n] w fun e w' => e = .returned (sV (lowI m n)) ∧ Kept All w w' := by
  go_enter Try.func46, Try.ntmps46
  go_wp2_with fail
  go_loopw [5, 6] (fun x y wr => ∃ i j : Nat, x = .int .i64 i ∧ y = .int .i64 j ∧ 1 ≤ i ∧ i ≤ 1000000000 ∧ j ≤ 1000000000 ∧ Hid (Nat.gcd i j = Nat.gcd m n) ∧ Kept All w wr ∧ Blk wr w.heap.size 48 #[.int .i64 0, .int .i64 0]) (fun _ y _ => (intOf y).toNat)
  case atStart => exact ⟨m, n, rfl, rfl, h1, h2, h3, Lib.hid rfl, (Kept.refl _ _).alloc _, Blk.new _ _ _⟩
  case round =>
    obtain ⟨i, j, rfl, rfl, hi, hi2, hj2, hg, hk, hb⟩ := hrel
    by_cases hj : j = 0
    · subst hj
      have i0 : ¬ i = 0 := by omega
      have i3 : ((i : Int) == 0) = false := by simp; omega
      have i1 : (i : Int) ≠ -1 := by omega
      have e1 : IntKind.i64.wrap ((m : Int).tdiv i) = ((m / i : Nat) : Int) := by
        rw [← Int.ofNat_tdiv]; exact IntWalk.i64_in _ (by have := Nat.div_le_self m i; generalize m / i = q at *; omega)
      have e2 : IntKind.i64.wrap ((n : Int).tdiv i) = ((n / i : Nat) : Int) := by
        rw [← Int.ofNat_tdiv]; exact IntWalk.i64_in _ (by have := Nat.div_le_self n i; generalize n / i = q at *; omega)
      have r0 := hb.at 0 rfl
      have r1 := hb.at 1 rfl
      have z0 := hb.frozen 0
      have z1 := hb.frozen 1
      go_wp2_with fail
      refine wp_tail 7 (by kernel_rfl) (by kernel_rfl) ?_
      simp only [List.take_succ_cons, List.take_zero, List.drop_succ_cons, List.drop_zero]
      repeat still_step
      refine wpStill_nil ?_
      go_wp2_with fail
      have hF := ((hb.set 0 (.int .i64 (lowI m n).1)).set 1 (.int .i64 (lowI m n).2)).drew
      have q0 := hF.at 0 rfl
      have q1 := hF.at 1 rfl
      have hgi : gcdI m n = i := by
        have := hg.out
        simp only [Nat.gcd_zero_right] at this
        simp [gcdI, this]
      have l1 : (lowI m n).1 = ((m / i : Nat) : Int) := by simp only [lowI, hgi, Int.toNat_natCast]
      have l2 : (lowI m n).2 = ((n / i : Nat) : Int) := by simp only [lowI, hgi, Int.toNat_natCast]
      have f1 : IntKind.i64.wrap ((m : Int) / (i : Int)) = (lowI m n).1 := by rw [l1, ← e1]; simp
      have f2 : IntKind.i64.wrap ((n : Int) / (i : Int)) = (lowI m n).2 := by rw [l2, ← e2]; simp
      have g1 : wrap64 ((m : Int) / (i : Int)) = (lowI m n).1 := (IntWalk.i64_left _).symm.trans f1
      have g2 : wrap64 ((n : Int) / (i : Int)) = (lowI m n).2 := (IntWalk.i64_left _).symm.trans f2
      simp only [f1, f2, g1, g2]
      refine bodyPost_ret (v := sV (lowI m n)) (by simp [results, Try.results46, go_sem, q0, q1]) rfl ⟨rfl, ?_⟩
      exact ((hk.setNew (by simp) _).setNew (by simp) _).drew
    · have hjb : ((j : Int) != 0) = true := by simpa using hj
      have hj0 : (j : Int) ≠ 0 := by omega
      have hjm : (j : Int) ≠ -1 := by omega
      have e1 : IntKind.i64.wrap ((i : Int).tmod j) = ((i % j : Nat) : Int) := by
        rw [← Int.ofNat_tmod]; exact IntWalk.i64_in _ (by have := Nat.mod_le i j; omega)
      go_wp2_with fail
      go_quiet (fail)
      have hk2 : Kept All wr (wr.drewN nq) := (Kept.refl _ _).drewN nq
      generalize wr.drewN nq = W at hk2 ⊢
      go_wp2_with fail
      go_roundw
      case rel =>
        refine ⟨j, i % j, rfl, ?_, by omega, by omega, ?_, Lib.hid ?_, hk.trans hk2, hb.kept hk2 trivial⟩
        · simp
        · have := Nat.mod_le i j; omega
        · rw [← hg.out, Nat.gcd_comm i j, Nat.gcd_comm j (i % j)]; exact (Nat.gcd_rec j i).symm
      case measure =>
        have := Nat.mod_lt i (show 0 < j by omega)
        have e : (i : Int) % (j : Int) = ((i % j : Nat) : Int) := by simp
        rw [e]; simp only [intOf]; omega
end Go.Proofs.Ytiajiahfmfckjaa
