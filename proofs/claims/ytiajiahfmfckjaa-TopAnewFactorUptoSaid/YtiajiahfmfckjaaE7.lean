/- The walk of TopAnewFactor. -/
import Derived.Test.YtiajiahfmfckjaaE6
namespace Go.Proofs.Ytiajiahfmfckjaa
open Go.RowKit
set_option maxRecDepth 10000

set_option maxHeartbeats 4000000 in
theorem top_any (H : House) (A : Option Addr) (c : Nat) (D : Option Addr) (d : Nat) (w : World) (hin : HIn w H A c D d) (p q r s : Int)
    (hl : 3 * H.ws.length + (dayNs H H.days.length).length + 30 ≤ 1000000000000) :
    Calls Try.prog 3 #[anV H A c D d p q r s] w fun e w' => e = .returned (.bool true) ∧ Kept All w w' := by
  obtain ⟨W, hW⟩ : ∃ W, ((w.alloc (.cells (anC H A c D d p q r s) 27)).alloc (.cells #[nilV, nilV] 31)).alloc (.cells #[nilV, nilV] 31) = W := ⟨_, rfl⟩
  have hk1 : Kept All w W := by rw [← hW]; exact (((Kept.refl _ _).alloc _).alloc _).alloc _
  have hX : Blk W w.heap.size 27 (anC H A c D d p q r s) := by rw [← hW]; exact ((Blk.new _ _ _).alloc _).alloc _
  have hA1 : Blk W (w.heap.size + 1) 31 #[nilV, nilV] := by rw [← hW]; exact (Blk.new' _ _ (by simp)).alloc _
  have hB1 : Blk W (w.heap.size + 2) 31 #[nilV, nilV] := by rw [← hW]; exact Blk.new' _ _ (by simp)
  have hz1 : W.heap.size = w.heap.size + 3 := by rw [← hW]; simp
  have hws : H.ws.length ≤ 1000000000000 := by omega
  have hc1 := all_any (heap_new hA1 hk1.size) w.heap.size w (Nat.le_refl _) hk1.size H A c D d hin hk1.all (fun k hk hf => by have := foot_nil.1 hf; omega) p q r s (by simp; omega) (by simp; omega)
  have HC1 := Lib.hid hc1
  have HZ1 := Lib.hid hz1
  have X0 := hX.at 0 rfl
  have X1 := hX.at 1 rfl
  have X2 := hX.at 2 rfl
  have X3 := hX.at 3 rfl
  have X4 := hX.at 4 rfl
  have X5 := hX.at 5 rfl
  clear hc1 hz1
  have HW := Lib.hid hW
  clear hW
  go_enter Try.func3, Try.ntmps3
  go_wp2_with fail
  rw [HW.out]
  refine HC1.out.mono ?_
  rintro e W1 ⟨⟨v, rfl⟩, u1, u2, hH1, hk2, hf2⟩
  have hz1 := HZ1.out
  have hKW : Kept All w W1 := hk1.weld hk2 (fun k hk hf => by have := foot_nil.1 hf; omega)
  have hX1 := hX.kept hk2 (fun hf => by have := foot_nil.1 hf; omega)
  have hB2 := hB1.kept hk2 (fun hf => by have := foot_nil.1 hf; omega)
  have hF1 : ∀ k, Foot (w.heap.size + 1) u1 u2 k → k ≠ w.heap.size + 2 := fun k hq e => by have := foot_nil.1 (hf2 k (by omega) hq); omega
  have hin1 := hin.kept hKW (fun _ _ => trivial)
  clear hk2 hf2 HC1 HW hX hA1 hB1 HZ1 hz1 X0 X1 X2 X3 X4 X5 hk1
  go_wp2_with fail
  refine (again_any (f := 6) (caps := #[ptr w.heap.size]) (enters_of Try.func6 (by kernel_rfl) rfl) (f6_ok hX1 hin1) (by simp)).mono ?_
  rintro e Wn ⟨rfl, hk⟩
  replace hH1 := hH1.kept hk (fun _ _ => trivial)
  replace hKW := hKW.trans hk
  replace hX1 := hX1.kept hk trivial
  replace hB2 := hB2.kept hk trivial
  replace hin1 := hin1.kept hk (fun _ _ => trivial)
  clear hk
  go_wp2_with fail
  refine (again_any (f := 11) (caps := #[ptr w.heap.size]) (enters_of Try.func11 (by kernel_rfl) rfl) (f11_ok hX1 hin1) (by simp)).mono ?_
  rintro e Wn ⟨rfl, hk⟩
  replace hH1 := hH1.kept hk (fun _ _ => trivial)
  replace hKW := hKW.trans hk
  replace hX1 := hX1.kept hk trivial
  replace hB2 := hB2.kept hk trivial
  replace hin1 := hin1.kept hk (fun _ _ => trivial)
  clear hk
  go_wp2_with fail
  refine (again_any (f := 14) (caps := #[ptr w.heap.size]) (enters_of Try.func14 (by kernel_rfl) rfl) (f14_ok hX1 hin1) (by simp)).mono ?_
  rintro e Wn ⟨rfl, hk⟩
  replace hH1 := hH1.kept hk (fun _ _ => trivial)
  replace hKW := hKW.trans hk
  replace hX1 := hX1.kept hk trivial
  replace hB2 := hB2.kept hk trivial
  replace hin1 := hin1.kept hk (fun _ _ => trivial)
  clear hk
  go_wp2_with fail
  refine (again_any (f := 16) (caps := #[ptr w.heap.size]) (enters_of Try.func16 (by kernel_rfl) rfl) (f16_ok hX1 hin1) (by simp)).mono ?_
  rintro e Wn ⟨rfl, hk⟩
  replace hH1 := hH1.kept hk (fun _ _ => trivial)
  replace hKW := hKW.trans hk
  replace hX1 := hX1.kept hk trivial
  replace hB2 := hB2.kept hk trivial
  replace hin1 := hin1.kept hk (fun _ _ => trivial)
  clear hk
  go_wp2_with fail
  refine (again_any (f := 18) (caps := #[ptr w.heap.size]) (enters_of Try.func18 (by kernel_rfl) rfl) (f18_ok hX1 hin1) (by simp)).mono ?_
  rintro e Wn ⟨rfl, hk⟩
  replace hH1 := hH1.kept hk (fun _ _ => trivial)
  replace hKW := hKW.trans hk
  replace hX1 := hX1.kept hk trivial
  replace hB2 := hB2.kept hk trivial
  replace hin1 := hin1.kept hk (fun _ _ => trivial)
  clear hk
  go_wp2_with fail
  refine (again_any (f := 21) (caps := #[ptr w.heap.size]) (enters_of Try.func21 (by kernel_rfl) rfl) (f21_ok hX1 hin1) (by simp)).mono ?_
  rintro e Wn ⟨rfl, hk⟩
  replace hH1 := hH1.kept hk (fun _ _ => trivial)
  replace hKW := hKW.trans hk
  replace hX1 := hX1.kept hk trivial
  replace hB2 := hB2.kept hk trivial
  replace hin1 := hin1.kept hk (fun _ _ => trivial)
  clear hk
  go_wp2_with fail
  refine (again_any (f := 23) (caps := #[ptr w.heap.size]) (enters_of Try.func23 (by kernel_rfl) rfl) (f23_ok hX1 hin1) (by have := wrongA_len H; simp; omega)).mono ?_
  rintro e Wn ⟨rfl, hk⟩
  replace hH1 := hH1.kept hk (fun _ _ => trivial)
  replace hKW := hKW.trans hk
  replace hX1 := hX1.kept hk trivial
  replace hB2 := hB2.kept hk trivial
  replace hin1 := hin1.kept hk (fun _ _ => trivial)
  clear hk
  have hc2 := all_any (heap_new hB2 hKW.size) w.heap.size w (Nat.le_refl _) hKW.size H A c D d hin hKW.all (fun k hk hf => by have := foot_nil.1 hf; omega) p q r s (by simp; omega) (by simp; omega)
  have X0 := hX1.at 0 rfl
  have X1 := hX1.at 1 rfl
  have X2 := hX1.at 2 rfl
  have X3 := hX1.at 3 rfl
  have X4 := hX1.at 4 rfl
  have X5 := hX1.at 5 rfl
  go_wp2_with fail
  refine hc2.mono ?_
  clear hc2
  rintro e W2 ⟨⟨v2, rfl⟩, x1, x2, hH2, hk2, -⟩
  have hKW2 : Kept All w W2 := hKW.weld hk2 (fun k hk hf => by have := foot_nil.1 hf; omega)
  have hH3 := hH1.kept hk2 (fun k hq hq2 => hF1 k hq (foot_nil.1 hq2))
  have a0 := hH3.blk.at 0 rfl
  have a1 := hH3.blk.at 1 rfl
  have b0 := hH2.blk.at 0 rfl
  have b1 := hH2.blk.at 1 rfl
  have hlen : (houseNs H).length = 3 * H.ws.length + (dayNs H H.days.length).length + 2 := by simp [houseNs, watNs_len]; omega
  have hlen2 : (houseSs H).length = H.ws.length := by simp [houseSs, watSs_len]
  have hsame := same_any (by simp [hlen]; omega) (by simp [hlen2]; omega) hH3 hH2
  clear hk2 hH1 hB2 hX1 X0 X1 X2 X3 X4 X5 hF1 hlen hlen2 hin1
  go_wp2_with fail
  refine hsame.mono ?_
  clear hsame
  rintro e W3 ⟨rfl, hk3⟩
  clear a0 a1 b0 b1
  go_wp2_with fail
  refine (awake_any _).mono ?_
  rintro e W4 ⟨rfl, hk4⟩
  go_wp2_with fail
  go_ret
  exact ⟨rfl, (hKW2.trans hk3).trans hk4⟩
end Go.Proofs.Ytiajiahfmfckjaa
