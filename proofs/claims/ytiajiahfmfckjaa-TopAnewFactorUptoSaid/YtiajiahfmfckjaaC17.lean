/- The walk of package factor's Between. -/
import Derived.Test.YtiajiahfmfckjaaC16
namespace Go.Proofs.Ytiajiahfmfckjaa
open Go.RowKit Go.Shelf
attribute [local go_sem] Oper.semAt_some
set_option maxRecDepth 10000

def bwE (h : House) (x z : Int) : Int := entErr h (ix [x, (h.ws.length : Int), z, (h.ws.length : Int)]) 2 0
def bwA (h : House) (x z : Int) : (Int × Int) × (Int × Int) := if bwE h x z ≠ 0 then ((0, 0), (0, 0)) else betL x.toNat z.toNat (truths h 0)

theorem store4 {w0 w : World} {gl gm : Nat} {t : TypeId} {x0 x1 y0 y1 : Value} (hL : Blk w gl t #[x0, x1]) (hM : Blk w gm t #[y0, y1]) (hne : gl ≠ gm) (hk : Kept All w0 w) (h1 : w0.heap.size ≤ gl) (h2 : w0.heap.size ≤ gm) (a b c d : Value) :
    Blk ((((w.setCell ⟨gl, 0, none⟩ a).setCell ⟨gl, 1, none⟩ b).setCell ⟨gm, 0, none⟩ c).setCell ⟨gm, 1, none⟩ d) gl t #[a, b] ∧
    Blk ((((w.setCell ⟨gl, 0, none⟩ a).setCell ⟨gl, 1, none⟩ b).setCell ⟨gm, 0, none⟩ c).setCell ⟨gm, 1, none⟩ d) gm t #[c, d] ∧
    Kept All w0 ((((w.setCell ⟨gl, 0, none⟩ a).setCell ⟨gl, 1, none⟩ b).setCell ⟨gm, 0, none⟩ c).setCell ⟨gm, 1, none⟩ d) :=
  ⟨((((hL.set 0 a).set 1 b).far (p := ⟨gm, 0, none⟩) hne c).far (p := ⟨gm, 1, none⟩) hne d),
   ((((hM.far (p := ⟨gl, 0, none⟩) hne.symm a).far (p := ⟨gl, 1, none⟩) hne.symm b).set 0 c).set 1 d),
   ((((hk.setNew (p := ⟨gl, 0, none⟩) h1 a).setNew (p := ⟨gl, 1, none⟩) h1 b).setNew (p := ⟨gm, 0, none⟩) h2 c).setNew (p := ⟨gm, 1, none⟩) h2 d)⟩

set_option maxHeartbeats 2000000 in
theorem Between_any (h : House) (A : Option Addr) (c : Nat) (D : Option Addr) (d : Nat) (w : World) (hin : HIn w h A c D d) (x z : Int) :
    Calls Try.prog 19 #[.agg #[.slice A h.ws.length c, .slice D h.days.length d], .int .i64 x, .int .i64 z] w fun e w' => e = .returned (.tuple #[sV (bwA h x z).1, sV (bwA h x z).2, .int .i64 (bwE h x z)]) ∧ Kept All w w' := by
  have hnw := hin.nw
  have hnd := hin.nd
  go_enter Try.func19, Try.ntmps19
  go_wp2_with fail
  obtain ⟨w0, hw0⟩ : ∃ w0, (((w.alloc (.cells #[.slice A h.ws.length c, .slice D h.days.length d] 25)).alloc (.cells #[.int .i64 0, .int .i64 0] 48)).alloc (.cells #[.int .i64 0, .int .i64 0] 48)).alloc (.cells #[.int .i64 x, .int .i64 h.ws.length, .int .i64 z, .int .i64 h.ws.length] 3) = w0 := ⟨_, rfl⟩
  have hk0 : Kept All w w0 := by rw [← hw0]; exact ((((Kept.refl _ _).alloc _).alloc _).alloc _).alloc _
  have hL0 : Blk w0 (w.heap.size + 1) 48 #[.int .i64 0, .int .i64 0] := by rw [← hw0]; exact ((Blk.new' _ _ (by simp)).alloc _).alloc _
  have hM0 : Blk w0 (w.heap.size + 2) 48 #[.int .i64 0, .int .i64 0] := by rw [← hw0]; exact (Blk.new' _ _ (by simp)).alloc _
  have hN0 : Nums w0 (some ⟨w.heap.size + 3, 0, none⟩) 4 (ix [x, (h.ws.length : Int), z, (h.ws.length : Int)]) := by rw [← hw0]; exact nums_four _ _ _ _ _ (by simp)
  have hz0 : w0.heap.size = w.heap.size + 4 := by rw [← hw0]; simp
  rw [hw0]
  clear hw0
  refine (enter_any h A c D d _ (hin.kept hk0 (fun _ _ => trivial)) _ 2 _ (ix [x, (h.ws.length : Int), z, (h.ws.length : Int)]) hN0 (by omega) (by
      intro j hj; obtain rfl | rfl : j = 0 ∨ j = 1 := by omega
      · simp [ix]; omega
      · simp [ix]; omega) 38 #[] 0 (enters_of Try.func38 (by kernel_rfl) rfl) (fun w' _ _ _ => (fine_any w').mono (by rintro e w'' ⟨rfl, rfl⟩; exact ⟨rfl, Kept.refl _ _⟩))).mono ?_
  rintro e w1 ⟨hk1, hh⟩
  have hL1 := hL0.kept hk1 trivial
  have hM1 := hM0.kept hk1 trivial
  have hk2 := hk0.trans hk1
  have lL := hL1.lt
  have lM := hM1.lt
  clear hk1
  have p0 := hL1.at 0 rfl
  have p1 := hL1.at 1 rfl
  have p2 := hL1.frozen 0
  have p3 := hL1.frozen 1
  have m0 := hM1.at 0 rfl
  have m1 := hM1.at 1 rfl
  have m2 := hM1.frozen 0
  have m3 := hM1.frozen 1
  rcases hh with ⟨hne, rfl⟩ | ⟨hz, base, hb, km, rfl, hp, hbs, hkm⟩
  · have hne' : (entErr h (ix [x, (h.ws.length : Int), z, (h.ws.length : Int)]) 2 0 != 0) = true := by simpa using hne
    have HN := Lib.hid hne
    clear hne
    go_wp2_with fail
    go_region
    go_wp2_with fail
    obtain ⟨L, M, K⟩ := store4 hL1 hM1 (by omega) hk2 (by omega) (by omega) (.int .i64 0) (.int .i64 0) (.int .i64 0) (.int .i64 0)
    replace L := L.drew
    replace M := M.drew
    have q0 := L.at 0 rfl
    have q1 := L.at 1 rfl
    have q2 := M.at 0 rfl
    have q3 := M.at 1 rfl
    refine bodyPost_ret (v := .tuple #[sV (0, 0), sV (0, 0), .int .i64 (bwE h x z)]) (by simp [results, Try.results19, go_sem, q0, q1, q2, q3, bwE]) rfl ⟨?_, K.drew⟩
    rw [bwA, if_pos (show bwE h x z ≠ 0 from HN.out)]
  · obtain ⟨hv, hbad, -, -⟩ := entErr_zero hz
    obtain ⟨⟨a1, a2⟩, a3, a4⟩ := badIx_two hbad
    simp [ix] at a1 a2 a3 a4
    have HZ := Lib.hid hz
    clear hz hbad
    obtain ⟨xn, rfl⟩ := Int.eq_ofNat_of_zero_le a1
    obtain ⟨zn, rfl⟩ := Int.eq_ofNat_of_zero_le a3
    go_wp2_with fail
    refine (between_any hv hp hbs xn zn (by omega) (by omega)).mono ?_
    rintro e w2 ⟨rfl, hk3, hc3⟩
    have hs3 := hk3.size
    have hL2 := hL1.kept hk3 (by omega)
    have hM2 := hM1.kept hk3 (by omega)
    have hk4 : Kept All w w2 := hk2.weld hk3 (fun k hk => by omega)
    clear p0 p1 p2 p3 m0 m1 m2 m3
    have lL2 := hL2.lt
    have lM2 := hM2.lt
    have p0 := hL2.at 0 rfl
    have p1 := hL2.at 1 rfl
    have p2 := hL2.frozen 0
    have p3 := hL2.frozen 1
    have m0 := hM2.at 0 rfl
    have m1 := hM2.at 1 rfl
    have m2 := hM2.frozen 0
    have m3 := hM2.frozen 1
    obtain ⟨s, hs⟩ : ∃ s, betL xn zn (truths h 0) = s := ⟨_, rfl⟩
    rw [hs]
    have HS := Lib.hid hs
    clear hs
    go_wp2_with fail
    go_region
    go_wp2_with fail
    obtain ⟨L1, M1, K1⟩ := store4 hL2 hM2 (by omega) hk4 (by omega) (by omega) (.int .i64 s.1.1) (.int .i64 s.1.2) (.int .i64 s.2.1) (.int .i64 s.2.2)
    obtain ⟨L, M, K⟩ := store4 L1 M1 (by omega) K1 (by omega) (by omega) (.int .i64 s.1.1) (.int .i64 s.1.2) (.int .i64 s.2.1) (.int .i64 s.2.2)
    replace L := L.drew
    replace M := M.drew
    have q0 := L.at 0 rfl
    have q1 := L.at 1 rfl
    have q2 := M.at 0 rfl
    have q3 := M.at 1 rfl
    have hE : bwE h xn zn = 0 := HZ.out
    refine bodyPost_ret (v := .tuple #[sV s.1, sV s.2, .int .i64 0]) (by simp [results, Try.results19, go_sem, q0, q1, q2, q3]) rfl ⟨?_, K.drew⟩
    rw [bwA, if_neg (fun hn => hn hE), hE]
    simp only [Int.toNat_natCast, HS.out]
end Go.Proofs.Ytiajiahfmfckjaa
