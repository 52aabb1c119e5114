/- The walks of package factor's Factor and Number. -/
import Derived.Test.YtiajiahfmfckjaaC10
namespace Go.Proofs.Ytiajiahfmfckjaa
open Go.RowKit Go.Shelf
attribute [local go_sem] Oper.semAt_some
set_option maxRecDepth 10000

/-- what a function answers that enters first, where `s` is its answer in a house that is entered -/
def facE (h : House) (x : Int) : Int := entErr h (ix [x, (h.ws.length : Int)]) 1 0
def facR (h : House) (x : Int) : Int × Int := if facE h x = 0 then wideL ((truths h 0).map fun t => (t.1.get x.toNat, t.1.get x.toNat)) else (0, 0)
theorem ix2_0 (x y : Int) : ix [x, y] (2 * 0) = x := rfl
theorem ix2_1 (x y : Int) : ix [x, y] (2 * 0 + 1) = y := rfl
theorem badIx_one {f : Nat → Int} (h : badIx f 1 = false) : 0 ≤ f 0 ∧ f 0 ≤ f 1 - 1 := by
  have := badIx_all h 0 (by omega)
  exact outB_false this

set_option maxHeartbeats 1000000 in
theorem factor_any (h : House) (A : Option Addr) (c : Nat) (D : Option Addr) (d : Nat) (w : World) (hin : HIn w h A c D d) (x : Int) :
    Calls Try.prog 12 #[.agg #[.slice A h.ws.length c, .slice D h.days.length d], .int .i64 x] w fun e w' => e = .returned (.tuple #[sV (facR h x), .int .i64 (facE h x)]) ∧ Kept All w w' := by
  have hnw := hin.nw
  go_enter Try.func12, Try.ntmps12
  go_wp2_with fail
  refine (enter_any h A c D d _ (hin.kept (by repeat (first | exact Kept.refl All _ | refine Kept.alloc ?_ _)) (fun _ _ => trivial)) _ 1 _ (ix [x, (h.ws.length : Int)]) (by exact nums_two _ _ _ (by simp)) (by omega) (by
      intro j hj; obtain rfl : j = 0 := by omega
      rw [ix2_1]; omega) 38 #[] 0 (enters_of Try.func38 (by kernel_rfl) rfl) (fun w' _ _ _ => (fine_any w').mono (by rintro e w'' ⟨rfl, rfl⟩; exact ⟨rfl, Kept.refl _ _⟩))).mono ?_
  rintro e w1 ⟨hk1, hh⟩
  have hB1 := Blk.kept (((Blk.new' (w := (w.alloc (.cells #[.slice A h.ws.length c, .slice D h.days.length d] 25)).alloc (.cells #[.int .i64 x] 3)) (g := w.heap.size + 1 + 1) 42 #[.int .i64 0, .int .i64 0] (by simp)).alloc _)) hk1 trivial
  have hX1 := Blk.kept ((((Blk.new' (w := (w.alloc (.cells #[.slice A h.ws.length c, .slice D h.days.length d] 25))) (g := w.heap.size + 1) 3 #[.int .i64 x] (by simp)).alloc _).alloc _)) hk1 trivial
  have hk2 : Kept All w w1 := Kept.trans (by repeat (first | exact Kept.refl All _ | refine Kept.alloc ?_ _)) hk1
  have lx := hX1.lt
  have lb := hB1.lt
  clear hk1
  have b0 := hB1.at 0 rfl
  have b1 := hB1.at 1 rfl
  have z0 := hB1.frozen 0
  have z1 := hB1.frozen 1
  rcases hh with ⟨hne, rfl⟩ | ⟨hz, base, hb, km, rfl, hp, hbs, hkm⟩
  · have hne' : (entErr h (ix [x, (h.ws.length : Int)]) 1 0 != 0) = true := by simpa using hne
    have HN := Lib.hid hne
    clear hne
    go_wp2_with fail
    have hF := ((hB1.set 0 (.int .i64 0)).set 1 (.int .i64 0)).alloc (.cells #[.pointer none] 74)
    have q0 := hF.at 0 rfl
    have q1 := hF.at 1 rfl
    refine bodyPost_ret (v := .tuple #[sV (0, 0), .int .i64 (facE h x)]) (by simp [results, Try.results12, go_sem, q0, q1, facE]) rfl ⟨?_, ?_⟩
    · rw [facR, if_neg (show ¬ facE h x = 0 from HN.out)]
    · exact ((hk2.setNew (by simp; omega) _).setNew (by simp; omega) _).alloc _
  · obtain ⟨hv, hbad, -, -⟩ := entErr_zero hz
    have hb1 := badIx_one hbad
    have HZ := Lib.hid hz
    simp at hkm
    clear hz hbad
    go_wp2_with fail
    have hbox : Blk (w1.alloc (.cells #[ptr hb] 74)) w1.heap.size 74 #[ptr hb] := Blk.new _ _ _
    have hka : Kept All w1 (w1.alloc (.cells #[ptr hb] 74)) := (Kept.refl _ _).alloc _
    have hza : (w1.alloc (.cells #[ptr hb] 74)).heap.size = w1.heap.size + 1 := by simp
    have hxx : x = ((x.toNat : Nat) : Int) := by
      have := hb1.1
      simp only [ix] at this
      exact (Int.toNat_of_nonneg this).symm
    have hXa := hX1.kept hka trivial
    rw [hxx] at hXa
    have hX' := Lib.hid hxx
    clear hxx
    refine (wide_any (g := 40) (caps := #[ptr w1.heap.size, ptr (w.heap.size + 1)]) _ (enters_of Try.func40 (by kernel_rfl) rfl) (factor_iter hv (hp.kept hka (fun _ _ => trivial)) (by omega) hbox x.toNat (by
      have := hb1.2
      simp only [ix] at this
      have h2 : x ≤ (h.ws.length : Int) - 1 := this
      have := hb1.1
      have h3 : 0 ≤ x := this
      omega) hXa) (fun A B hc hk => hc.kept hk rfl) (fun k hk => by omega) (fun k hk => by have := hp.klt; omega)).mono ?_
    rintro e w2 ⟨rfl, hk3, hc3⟩
    have hB2 := (hB1.kept hka trivial).kept hk3 (by omega)
    have b0 := hB2.at 0 rfl
    have b1 := hB2.at 1 rfl
    have z0 := hB2.frozen 0
    have z1 := hB2.frozen 1
    go_wp2_with fail
    have hs3 := hk3.size
    have hF := (hB2.set 0 (.int .i64 (wideL ((truths h 0).map fun t => (t.1.get x.toNat, t.1.get x.toNat))).1)).set 1 (.int .i64 (wideL ((truths h 0).map fun t => (t.1.get x.toNat, t.1.get x.toNat))).2)
    have q0 := hF.at 0 rfl
    have q1 := hF.at 1 rfl
    have hR : facR h x = wideL ((truths h 0).map fun t => (t.1.get x.toNat, t.1.get x.toNat)) := by rw [facR, if_pos (show facE h x = 0 from HZ.out)]
    have hE : facE h x = 0 := HZ.out
    refine bodyPost_ret (v := .tuple #[sV (facR h x), .int .i64 (facE h x)]) (by simp [results, Try.results12, go_sem, q0, q1, hR, hE]) rfl ⟨rfl, ?_⟩
    exact (((hk2.trans hka).weld hk3 (fun k hk => by omega)).setNew (by simp; omega) _).setNew (by simp; omega) _
end Go.Proofs.Ytiajiahfmfckjaa
