/- Puts of a house. -/
import Derived.Test.YtiajiahfmfckjaaD3
namespace Go.Proofs.Ytiajiahfmfckjaa
open Go.RowKit
set_option maxRecDepth 10000

def watNs (H : House) : Nat → List Int
  | 0 => []
  | n + 1 => watNs H n ++ [(H.w n).lo, (H.w n).hi, (H.w n).off]
def watSs (H : House) : Nat → List ByteArray
  | 0 => []
  | n + 1 => watSs H n ++ [(H.w n).name]
theorem watNs_len (H : House) : ∀ n, (watNs H n).length = 3 * n
  | 0 => rfl
  | n + 1 => by simp [watNs, watNs_len H n]; omega
theorem watSs_len (H : House) : ∀ n, (watSs H n).length = n
  | 0 => rfl
  | n + 1 => by simp [watSs, watSs_len H n]

set_option maxHeartbeats 1000000 in
theorem putWats_any {base hp : Nat} {ns : List Int} {ss : List ByteArray} {v1 v2 : Value} {w : World} (h : HeapAt base w hp ns ss v1 v2) (A : Option Addr) (H : House) (c : Nat) (hA : WatsN w A H H.ws.length) (hd : ∀ b off, A = some ⟨b, off, none⟩ → 0 < H.ws.length → ¬ Foot hp v1 v2 b)
    (hl : ns.length + 3 * H.ws.length + 3 ≤ 1000000000000) (hl2 : ss.length + H.ws.length ≤ 1000000000000) :
    Calls Try.prog 74 #[ptr hp, .slice A H.ws.length c, .func (.func 75) #[] #[]] w (Puts base hp v1 v2 w (ns ++ (H.ws.length : Int) :: watNs H H.ws.length) (ss ++ watSs H H.ws.length)) := by
  have h0 := h.blk.at 0 rfl
  have h1 := h.blk.at 1 rfl
  have hz := h.blk.frozen 0
  have hlt := h.blk.lt
  obtain ⟨i0, hi, hz0, hz1, hz2⟩ := info_parts info3
  go_enter Try.func74, Try.ntmps74
  go_wp2_with (at_builtin; refine wpList_append_lies _ rfl _ _ 28 rfl base 3 i0 (.int .i64 0) 1 8 Try.underlying28 hi hz0 hz1 hz2 rfl (by decide) v1 ns.length (encN ns) rfl (h.nums.alloc _) ⟨w.heap.size, 0, none⟩ 1 1 [.int .i64 H.ws.length] rfl rfl (cell_one_new _ _ _) (ints_oneCell .i64 [(H.ws.length : Int)]) (by decide) (by unfold maxLen; omega) (by omega) (by have := h.hbase; simp; omega) _ rfl ?_; intro g cap w2 hown hgrow hat hlt2; have hkA : Kept (fun k => some k ≠ v1.ownBlock) w w2 := ((Kept.refl _ w).alloc _).grown hgrow (fun k hk _ hn => hn hk.symm); have B2 := h.blk.kept hkA (fun e => h.ne1 e.symm); have b0 := B2.at 0 rfl; have bz := B2.frozen 0)
  obtain ⟨HA, HK, HF⟩ := append_nums (x := (H.ws.length : Int)) h hown hgrow (by simpa using hat)
  generalize w2.setCell ⟨hp, 0, none⟩ (.slice (some ⟨g, 0, none⟩) (ns.length + 1) cap) = w3 at HA HK HF ⊢
  clear b0 bz B2 hkA hat hgrow hown hlt2 h0 h1 hz hlt
  go_loopw [6] (fun k wr => ∃ j : Nat, j ≤ H.ws.length ∧ k = .int .i64 j ∧ ∃ u1 u2, HeapAt base wr hp (ns ++ (H.ws.length : Int) :: watNs H j) (ss ++ watSs H j) u1 u2 ∧ Kept (fun k => ¬ Foot hp v1 v2 k) w wr ∧ ∀ k, k < w.heap.size → Foot hp u1 u2 k → Foot hp v1 v2 k) (fun k _ => H.ws.length - (intOf k).toNat)
  case atStart => exact ⟨0, by omega, rfl, _, _, by simpa [watNs, watSs] using HA, HK, HF⟩
  case round =>
    obtain ⟨j, hj, rfl, u1, u2, hh, hk, hf⟩ := hrel
    by_cases hlj : j < H.ws.length
    · obtain ⟨b, off, rfl, hc⟩ := hA (by omega)
      obtain ⟨y1, y2, y3, y4⟩ := hc j hlj
      have hS := hd b off rfl (by omega)
      have c1 := hk.cell y1 hS
      have c2 := hk.cell y2 hS
      have c3 := hk.cell y3 hS
      have c4 := hk.cell y4 hS
      have hji : (j : Int) < (H.ws.length : Int) := by omega
      clear hc y1 y2 y3 y4
      go_wp2_with fail
      refine (putWat_any hh (H.w j).name (H.w j).lo (H.w j).hi (H.w j).off (by simp [watNs_len]; omega) (by simp [watSs_len]; omega)).mono ?_
      rintro e w4 hp4
      obtain ⟨v', rfl⟩ := hp4.1
      obtain ⟨-, t1, t2, h4, hk4, hf4⟩ := Puts.trans hk hf hp4
      have e1 : ns ++ (H.ws.length : Int) :: watNs H (j + 1) = ns ++ (H.ws.length : Int) :: watNs H j ++ [(H.w j).lo, (H.w j).hi, (H.w j).off] := by simp [watNs]
      have e2 : ss ++ watSs H (j + 1) = ss ++ watSs H j ++ [(H.w j).name] := by simp [watSs]
      rw [← e1, ← e2] at h4
      go_wp2_with fail
      go_roundw
      case rel => exact ⟨j + 1, by omega, by go_num, t1, t2, h4, hk4, hf4⟩
      case measure => simp [intOf]; omega
    · obtain rfl : j = H.ws.length := by omega
      go_wp2_with fail
      go_end0
      exact ⟨⟨_, rfl⟩, u1, u2, hh, hk, hf⟩

end Go.Proofs.Ytiajiahfmfckjaa
