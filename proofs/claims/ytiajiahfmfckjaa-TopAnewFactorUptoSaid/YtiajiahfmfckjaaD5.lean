/- Puts of a house's days. -/
import Derived.Test.YtiajiahfmfckjaaD4
namespace Go.Proofs.Ytiajiahfmfckjaa
open Go.RowKit
set_option maxRecDepth 10000

def dayNs (H : House) : Nat → List Int
  | 0 => []
  | n + 1 => dayNs H n ++ ((H.d n).length : Int) :: H.d n
theorem dayNs_mono (H : House) {n m : Nat} (h : n ≤ m) : (dayNs H n).length ≤ (dayNs H m).length := by
  induction m with
  | zero => obtain rfl : n = 0 := by omega
            exact Nat.le_refl _
  | succ m ih =>
    by_cases e : n = m + 1
    · subst e; exact Nat.le_refl _
    · have := ih (by omega); simp [dayNs]; omega

set_option maxHeartbeats 1000000 in
theorem putDays_any {base hp : Nat} {ns : List Int} {ss : List ByteArray} {v1 v2 : Value} {w : World} (h : HeapAt base w hp ns ss v1 v2) (B0 : Nat) (w0 : World) (hw0 : w0.heap.size ≤ B0) (hB0 : B0 ≤ w.heap.size) (A : Option Addr) (H : House) (c : Nat) (hA0 : DaysN w0 A H) (hk0 : Kept (fun k => k < B0) w0 w) (hd : ∀ k, k < B0 → ¬ Foot hp v1 v2 k)
    (hl : ns.length + (dayNs H H.days.length).length + 1 ≤ 1000000000000) (hnd : H.days.length ≤ 1000000000000000000) :
    Calls Try.prog 76 #[ptr hp, .slice A H.days.length c, .func (.func 25) #[] #[]] w (Puts base hp v1 v2 w (ns ++ (H.days.length : Int) :: dayNs H H.days.length) ss) := by
  have h0 := h.blk.at 0 rfl
  have h1 := h.blk.at 1 rfl
  have hz := h.blk.frozen 0
  have hlt := h.blk.lt
  obtain ⟨i0, hi, hz0, hz1, hz2⟩ := info_parts info3
  go_enter Try.func76, Try.ntmps76
  go_wp2_with (at_builtin; refine wpList_append_lies _ rfl _ _ 28 rfl base 3 i0 (.int .i64 0) 1 8 Try.underlying28 hi hz0 hz1 hz2 rfl (by decide) v1 ns.length (encN ns) rfl (h.nums.alloc _) ⟨w.heap.size, 0, none⟩ 1 1 [.int .i64 H.days.length] rfl rfl (cell_one_new _ _ _) (ints_oneCell .i64 [(H.days.length : Int)]) (by decide) (by unfold maxLen; omega) (by omega) (by have := h.hbase; simp; omega) _ rfl ?_; intro g cap w2 hown hgrow hat hlt2; have hkA : Kept (fun k => some k ≠ v1.ownBlock) w w2 := ((Kept.refl _ w).alloc _).grown hgrow (fun k hk _ hn => hn hk.symm); have B2 := h.blk.kept hkA (fun e => h.ne1 e.symm); have b0 := B2.at 0 rfl; have bz := B2.frozen 0)
  obtain ⟨HA, HK, HF⟩ := append_nums (x := (H.days.length : Int)) h hown hgrow (by simpa using hat)
  generalize w2.setCell ⟨hp, 0, none⟩ (.slice (some ⟨g, 0, none⟩) (ns.length + 1) cap) = w3 at HA HK HF ⊢
  clear b0 bz B2 hkA hat hgrow hown hlt2 h0 h1 hz hlt
  go_loopw [6] (fun k wr => ∃ j : Nat, j ≤ H.days.length ∧ k = .int .i64 j ∧ ∃ u1 u2, HeapAt base wr hp (ns ++ (H.days.length : Int) :: dayNs H j) ss u1 u2 ∧ Kept (fun k => ¬ Foot hp v1 v2 k) w wr ∧ ∀ k, k < w.heap.size → Foot hp u1 u2 k → Foot hp v1 v2 k) (fun k _ => H.days.length - (intOf k).toNat)
  case atStart => exact ⟨0, by omega, rfl, _, _, by simpa [dayNs] using HA, HK, HF⟩
  case round =>
    obtain ⟨j, hj, rfl, u1, u2, hh, hk, hf⟩ := hrel
    by_cases hlj : j < H.days.length
    · have hkk : Kept (fun k => k < B0) w wr := hk.mono fun k _ hlt => hd k hlt
      obtain ⟨b, off, rfl, hc⟩ := hA0 (by omega)
      obtain ⟨A', c', y1, x2, y3⟩ := hc j hlj
      have hlow : ∀ b' off', A' = some ⟨b', off', none⟩ → 0 < (H.d j).length → ¬ Foot hp u1 u2 b' := fun b' off' e hpos => by
        obtain ⟨q, qo, e2, hq⟩ := x2 hpos
        have hlt : q < w0.heap.size := lt_of_cell (hq 0 hpos)
        rw [e] at e2
        obtain ⟨rfl, -⟩ : b' = q ∧ off' = qo := by simpa using e2
        exact fun hf' => hd b' (by omega) (hf b' (by omega) hf')
      have lb : b < w0.heap.size := lt_of_cell y1
      replace y1 := (hk0.trans hkk).cell y1 (by simp; omega)
      have y2 := x2.kept (hk0.trans hkk) (fun k hk => by omega)
      clear x2
      have hji : (j : Int) < (H.days.length : Int) := by omega
      clear hc
      go_wp2_with fail
      have hmon := dayNs_mono H (show j + 1 ≤ H.days.length by omega)
      have hlen : (dayNs H (j + 1)).length = (dayNs H j).length + (H.d j).length + 1 := by rw [dayNs, List.length_append, List.length_cons]; omega
      refine (puts25_any hh A' (H.d j) c' y2 hlow (by rw [List.length_append, List.length_cons]; omega)).mono ?_
      rintro e w4 hp4
      obtain ⟨v', rfl⟩ := hp4.1
      obtain ⟨-, t1, t2, h4, hk4, hf4⟩ := Puts.trans hk hf hp4
      have e1 : ns ++ (H.days.length : Int) :: dayNs H (j + 1) = ns ++ (H.days.length : Int) :: dayNs H j ++ ((H.d j).length : Int) :: H.d j := by simp [dayNs]
      rw [← e1] at h4
      go_wp2_with fail
      go_roundw
      case rel => exact ⟨j + 1, by omega, by go_num, t1, t2, h4, hk4, hf4⟩
      case measure => simp [intOf]; omega
    · obtain rfl : j = H.days.length := by omega
      go_wp2_with fail
      go_end0
      exact ⟨⟨_, rfl⟩, u1, u2, hh, hk, hf⟩

end Go.Proofs.Ytiajiahfmfckjaa
