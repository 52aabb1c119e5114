/- The walk of package factor's Would. -/
import Derived.Test.YtiajiahfmfckjaaC13
namespace Go.Proofs.Ytiajiahfmfckjaa
open Go.RowKit Go.Shelf
attribute [local go_sem] Oper.semAt_some
set_option maxRecDepth 10000

def wouE (h : House) (x z : Int) : Int := entErr h (ix [x, (h.days.length : Int), z, (h.ws.length : Int)]) 2 (otherW h x.toNat z.toNat)
def wouS (h : House) (x z : Int) : Int × Int := wideL ((truths h 0).filterMap (canO h x.toNat z.toNat))
def wouA (h : House) (x z : Int) : (Int × Int) × Int :=
  if wouE h x z ≠ 0 then ((0, 0), wouE h x z) else if (wouS h x z).2 < 0 then ((0, 0), 9) else (wouS h x z, 0)
theorem badIx_two {f : Nat → Int} (h : badIx f 2 = false) : (0 ≤ f 0 ∧ f 0 ≤ f 1 - 1) ∧ 0 ≤ f 2 ∧ f 2 ≤ f 3 - 1 :=
  ⟨outB_false (badIx_all h 0 (by omega)), outB_false (badIx_all h 1 (by omega))⟩

set_option maxHeartbeats 2000000 in
theorem would_any (h : House) (A : Option Addr) (c : Nat) (D : Option Addr) (d : Nat) (w : World) (hin : HIn w h A c D d) (x z : Int) :
    Calls Try.prog 17 #[.agg #[.slice A h.ws.length c, .slice D h.days.length d], .int .i64 x, .int .i64 z] w fun e w' => e = .returned (.tuple #[sV (wouA h x z).1, .int .i64 (wouA h x z).2]) ∧ Kept All w w' := by
  have hnw := hin.nw
  have hnd := hin.nd
  go_enter Try.func17, Try.ntmps17
  go_wp2_with fail
  obtain ⟨w0, hw0⟩ : ∃ w0, ((((w.alloc (.cells #[.slice A h.ws.length c, .slice D h.days.length d] 25)).alloc (.cells #[.int .i64 x] 3)).alloc (.cells #[.int .i64 z] 3)).alloc (.cells #[.int .i64 0, .int .i64 0] 42)).alloc (.cells #[.int .i64 x, .int .i64 h.days.length, .int .i64 z, .int .i64 h.ws.length] 3) = w0 := ⟨_, rfl⟩
  have hk0 : Kept All w w0 := by rw [← hw0]; exact (((((Kept.refl _ _).alloc _).alloc _).alloc _).alloc _).alloc _
  have hC0 : Blk w0 w.heap.size 25 #[.slice A h.ws.length c, .slice D h.days.length d] := by rw [← hw0]; exact (((((Blk.new _ _ _).alloc _).alloc _).alloc _).alloc _)
  have hX0 : Blk w0 (w.heap.size + 1) 3 #[.int .i64 x] := by rw [← hw0]; exact ((((Blk.new' _ _ (by simp)).alloc _).alloc _).alloc _)
  have hZ0 : Blk w0 (w.heap.size + 2) 3 #[.int .i64 z] := by rw [← hw0]; exact (((Blk.new' _ _ (by simp)).alloc _).alloc _)
  have hB0 : Blk w0 (w.heap.size + 3) 42 #[.int .i64 0, .int .i64 0] := by rw [← hw0]; exact ((Blk.new' _ _ (by simp)).alloc _)
  have hN0 : Nums w0 (some ⟨w.heap.size + 4, 0, none⟩) 4 (ix [x, (h.days.length : Int), z, (h.ws.length : Int)]) := by rw [← hw0]; exact nums_four _ _ _ _ _ (by simp)
  have hz0 : w0.heap.size = w.heap.size + 5 := by rw [← hw0]; simp
  rw [hw0]
  clear hw0
  refine (enter_any h A c D d _ (hin.kept hk0 (fun _ _ => trivial)) _ 2 _ (ix [x, (h.days.length : Int), z, (h.ws.length : Int)]) hN0 (by omega) (by
      intro j hj; obtain rfl | rfl : j = 0 ∨ j = 1 := by omega
      · simp [ix]; omega
      · simp [ix]; omega) 43 #[ptr w.heap.size, ptr (w.heap.size + 1), ptr (w.heap.size + 2)] (otherW h x.toNat z.toNat) (enters_of Try.func43 (by kernel_rfl) rfl) (fun w' hc hb hk => ?_)).mono ?_
  · obtain ⟨⟨a1, a2⟩, a3, a4⟩ := badIx_two hb
    simp [ix] at a1 a2 a3 a4
    have hX' := hX0.kept hk trivial
    have hZ' := hZ0.kept hk trivial
    rw [show x = ((x.toNat : Nat) : Int) by omega] at hX'
    rw [show z = ((z.toNat : Nat) : Int) by omega] at hZ'
    exact other_any (valid_of_chk hc) w' ((hin.kept hk0 (fun _ _ => trivial)).kept hk (fun _ _ => trivial)) (hC0.kept hk trivial) x.toNat z.toNat (by omega) (by omega) hX' hZ'
  rintro e w1 ⟨hk1, hh⟩
  have hB1 := hB0.kept hk1 trivial
  have hC1 := hC0.kept hk1 trivial
  have hX1 := hX0.kept hk1 trivial
  have hZ1 := hZ0.kept hk1 trivial
  have hk2 := hk0.trans hk1
  have lc := hC1.lt
  have lx := hX1.lt
  have lz := hZ1.lt
  have lb := hB1.lt
  clear hk1
  have b0 := hB1.at 0 rfl
  have b1 := hB1.at 1 rfl
  have z0 := hB1.frozen 0
  have z1 := hB1.frozen 1
  rcases hh with ⟨hne, rfl⟩ | ⟨hz, base, hb, km, rfl, hp, hbs, hkm⟩
  · have hne' : (entErr h (ix [x, (h.days.length : Int), z, (h.ws.length : Int)]) 2 (otherW h x.toNat z.toNat) != 0) = true := by simpa using hne
    have HN := Lib.hid hne
    clear hne
    go_wp2_with fail
    have hF := ((hB1.set 0 (.int .i64 0)).set 1 (.int .i64 0)).alloc (.cells #[.pointer none] 74)
    have q0 := hF.at 0 rfl
    have q1 := hF.at 1 rfl
    refine bodyPost_ret (v := .tuple #[sV (0, 0), .int .i64 (wouE h x z)]) (by simp [results, Try.results17, go_sem, q0, q1, wouE]) rfl ⟨?_, ?_⟩
    · rw [wouA, if_pos (show wouE h x z ≠ 0 from HN.out)]
    · exact ((hk2.setNew (by simp; omega) _).setNew (by simp; omega) _).alloc _
  · obtain ⟨hv, hbad, -, -⟩ := entErr_zero hz
    obtain ⟨⟨a1, a2⟩, a3, a4⟩ := badIx_two hbad
    simp [ix] at a1 a2 a3 a4
    have HZ := Lib.hid hz
    clear hz hbad
    go_wp2_with fail
    have hbox : Blk (w1.alloc (.cells #[ptr hb] 74)) w1.heap.size 74 #[ptr hb] := Blk.new _ _ _
    have hka : Kept All w1 (w1.alloc (.cells #[ptr hb] 74)) := (Kept.refl _ _).alloc _
    have hza : (w1.alloc (.cells #[ptr hb] 74)).heap.size = w1.heap.size + 1 := by simp
    have hXa := hX1.kept hka trivial
    have hZa := hZ1.kept hka trivial
    rw [show x = ((x.toNat : Nat) : Int) by omega] at hXa
    rw [show z = ((z.toNat : Nat) : Int) by omega] at hZa
    refine (wide_any (g := 44) (caps := #[ptr w.heap.size, ptr (w.heap.size + 2), ptr w1.heap.size, ptr (w.heap.size + 1)]) _ (enters_of Try.func44 (by kernel_rfl) rfl) (would_iter hv (hp.kept hka (fun _ _ => trivial)) (by omega) hbox (hC1.kept hka trivial) x.toNat z.toNat (by omega) (by omega) hXa hZa (hin.kept (hk2.trans hka) (fun _ _ => trivial))) (fun A B hc hk => hc.kept hk rfl) (fun k hk => by omega) (fun k hk => by have := hp.klt; omega)).mono ?_
    rintro e w2 ⟨rfl, hk3, hc3⟩
    have hB2 := (hB1.kept hka trivial).kept hk3 (by omega)
    have b0 := hB2.at 0 rfl
    have b1 := hB2.at 1 rfl
    have z0 := hB2.frozen 0
    have z1 := hB2.frozen 1
    have lb2 := hB2.lt
    have hs3 := hk3.size
    have hk4 : Kept All w w2 := (hk2.trans hka).weld hk3 (fun k hk => by omega)
    obtain ⟨s, hs0⟩ : ∃ s, wideL ((truths h 0).filterMap (canO h x.toNat z.toNat)) = s := ⟨_, rfl⟩
    rw [hs0]
    have HS := Lib.hid (show wouS h x z = s from hs0)
    clear hs0
    by_cases hs : s.2 < 0
    · go_wp2_with fail
      have hF := ((hB2.set 0 (.int .i64 0)).set 1 (.int .i64 0)).alloc (.cells #[.int .i64 s.1, .int .i64 s.2] 42)
      have q0 := hF.at 0 rfl
      have q1 := hF.at 1 rfl
      have hR : wouA h x z = ((0, 0), 9) := by rw [wouA, if_neg (fun hn => hn HZ.out), HS.out, if_pos hs]
      refine bodyPost_ret (v := .tuple #[sV (0, 0), .int .i64 9]) (by simp [results, Try.results17, go_sem, q0, q1]) rfl ⟨by rw [hR], ?_⟩
      exact ((hk4.setNew (by simp; omega) _).setNew (by simp; omega) _).alloc _
    · go_wp2_with fail
      have hF := ((hB2.set 0 (.int .i64 s.1)).set 1 (.int .i64 s.2)).alloc (.cells #[.int .i64 s.1, .int .i64 s.2] 42)
      have q0 := hF.at 0 rfl
      have q1 := hF.at 1 rfl
      have hR : wouA h x z = (s, 0) := by rw [wouA, if_neg (fun hn => hn HZ.out), HS.out, if_neg (Int.not_lt.2 hs)]
      refine bodyPost_ret (v := .tuple #[sV s, .int .i64 0]) (by simp [results, Try.results17, go_sem, q0, q1]) rfl ⟨by rw [hR], ?_⟩
      exact ((hk4.setNew (by simp; omega) _).setNew (by simp; omega) _).alloc _
end Go.Proofs.Ytiajiahfmfckjaa
