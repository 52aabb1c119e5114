/- The walk of package factor's enter. -/
import Derived.Test.YtiajiahfmfckjaaC8
namespace Go.Proofs.Ytiajiahfmfckjaa
open Go.RowKit Go.Shelf
set_option maxRecDepth 10000

theorem HP.recache {base : Nat} {S : Nat → Prop} {w w' : World} {hb km : Nat} {h : House} {but : Int} {A : Option Addr} {c : Nat} {D : Option Addr} {d : Nat} (hp : HP base w hb km h but A c D d) (hk : Kept S w w') (hc : Cache w' km enc3 (GoodN h but)) (hS : ∀ k, k < base → k ≠ km → S k) : HP base w' hb km h but A c D d :=
  ⟨hp.blk.kept hk (hS _ hp.hlt hp.ne), hc, hp.inn.kept hk (fun k h => hS k (Nat.lt_trans h hp.klt) (by omega)), hp.hlt, hp.klt, hp.ne⟩

theorem fine_any (w : World) : Calls Try.prog 38 #[] w fun e w' => e = .returned (.int .i64 0) ∧ w = w' := by
  go_enter Try.func38, Try.ntmps38
  go_wp2
  go_ret
  exact ⟨rfl, rfl⟩

def EnterPost (h : House) (A : Option Addr) (c : Nat) (D : Option Addr) (d : Nat) (err : Int) (w : World) (e : Ending) (w' : World) : Prop :=
  Kept All w w' ∧ ((err ≠ 0 ∧ e = .returned (.tuple #[.pointer none, .int .i64 err])) ∨
    (err = 0 ∧ ∃ base hb km, e = .returned (.tuple #[ptr hb, .int .i64 0]) ∧ HP base w' hb km h 0 A c D d ∧ base ≤ w'.heap.size ∧ w.heap.size ≤ km))

set_option maxHeartbeats 1000000 in
theorem enter_any (h : House) (A : Option Addr) (c : Nat) (D : Option Addr) (d : Nat) (w : World) (hin : HIn w h A c D d) (I : Option Addr) (n ci : Nat) (f : Nat → Int) (hI : Nums w I (2 * n) f) (hn : n ≤ 2)
    (hf : ∀ j, j < n → 0 ≤ f (2 * j + 1) ∧ f (2 * j + 1) ≤ 1000000000000000000) (go : Nat) (caps : Array Value) (other : Int) (eg : ∀ args w, (callFunc go args).run Try.prog w = .ok (.enter go args) w)
    (ho : ∀ w', (chk h).2.2 = 0 → badIx f n = false → Kept All w w' → Calls Try.prog go caps w' fun e w'' => e = .returned (.int .i64 other) ∧ Kept All w' w'') :
    Calls Try.prog 37 #[.agg #[.slice A h.ws.length c, .slice D h.days.length d], .func (.func go) #[] caps, .slice I (2 * n) ci] w (EnterPost h A c D d (entErr h f n other) w) := by
  obtain ⟨w1, hw1⟩ : ∃ w1, w.alloc (.cells #[.slice A h.ws.length c, .slice D h.days.length d] 25) = w1 := ⟨_, rfl⟩
  have hk1 : Kept All w w1 := by rw [← hw1]; exact (Kept.refl _ _).alloc _
  have hB1 : Blk w1 w.heap.size 25 #[.slice A h.ws.length c, .slice D h.days.length d] := by rw [← hw1]; exact Blk.new _ _ _
  have b0 := hB1.at 0 rfl
  have b1 := hB1.at 1 rfl
  by_cases hc : (chk h).2.2 = 0
  · go_enter Try.func37, Try.ntmps37
    go_wp2_with fail
    refine (check_any h A c D d _ (hin.kept hk1 (fun _ _ => trivial))).mono ?_
    rintro e w2 ⟨rfl, hk2⟩
    have hkr0 := hk2
    replace hk2 := hk1.trans hk2
    have HC := Lib.hid hc
    clear b0 b1
    go_wp2_with fail
    go_loopw [11] (fun i wr => ∃ j : Nat, j ≤ n ∧ i = .int .i64 (2 * (j : Int)) ∧ Hid (∀ q, q < j → outB 0 (f (2 * q + 1) - 1) (f (2 * q)) = false) ∧ Kept All w2 wr) (fun i _ => (2 * n - intOf i).toNat)
    case atStart => exact ⟨0, by omega, by simp, fun q hq => by omega, Kept.refl _ _⟩
    case round =>
      obtain ⟨j, hj, rfl, hall, hkr⟩ := hrel
      by_cases hlt : j < n
      · obtain ⟨ib, io, rfl, hic⟩ := (hI.kept (hk2.trans hkr) (fun _ _ => trivial)) (by omega)
        have i0 := hic (2 * j) (by omega)
        have i1 := hic (2 * j + 1) (by omega)
        clear hic
        obtain ⟨g0, g1⟩ := hf j hlt
        have t1 : (2 * (j : Int) + 1).toNat = 2 * j + 1 := by omega
        have t0 : (2 * (j : Int)).toNat = 2 * j := by omega
        have sj : IntKind.i64.wrap (f (2 * j + 1) - 1) = f (2 * j + 1) - 1 := IntWalk.i64_in _ (by omega)
        have lib : ib < wr.heap.size := lt_of_cell i0
        have sj1 : IntKind.i64.wrap (2 * (j : Int) + 1) = 2 * (j : Int) + 1 := IntWalk.i64_in _ (by omega)
        have b1 : (0 : Int) ≤ 2 * (j : Int) := by omega
        have b2 : (0 : Int) ≤ 2 * (j : Int) + 1 := by omega
        have b3 : 2 * (j : Int) < 2 * (n : Int) := by omega
        have b4 : 2 * (j : Int) + 1 < 2 * (n : Int) := by omega
        cases hb : outB 0 (f (2 * j + 1) - 1) (f (2 * j)) with
        | true =>
          go_wp2_with fail
          go_region_held3 (fun w' => w'.cell? ⟨ib, io + (2 * j + 1), none⟩ = some (.int .i64 (f (2 * j + 1))) ∧ w'.cell? ⟨ib, io + 2 * j, none⟩ = some (.int .i64 (f (2 * j))))
            (first
              | go_keep
              | exact ⟨hk3.cell (Kept.cell (S := All) (by first | exact ((Kept.refl _ _).alloc _) | exact ((Kept.refl _ _).alloc _).drew | exact ((Kept.refl _ _).drew.alloc _)) i1 trivial) trivial, hk3.cell (Kept.cell (S := All) (by first | exact ((Kept.refl _ _).alloc _) | exact ((Kept.refl _ _).alloc _).drew | exact ((Kept.refl _ _).drew.alloc _)) i0 trivial) trivial⟩)
            ((go_at_call 36; refine (off_any _ 1 1 (fun _ => f (2 * j)) 0 (f (2 * j + 1) - 1) _ (by omega) (by exact nums_one _ _ (by simp))).mono ?_; rintro e w3 ⟨rfl, hk3⟩))
          have hk4 : Kept All w2 w3 := hkr.trans (Kept.trans (by first | exact ((Kept.refl _ _).alloc _) | exact ((Kept.refl _ _).alloc _).drew | exact ((Kept.refl _ _).drew.alloc _)) hk3)
          rw [any_one, hb]
          go_wp2_with fail
          go_ret2
          have hbad : badIx f n = true := badIx_true hb hlt
          exact ⟨hk2.trans hk4, .inl ⟨by simp [entErr, HC.out, hbad], by simp [entErr, HC.out, hbad]⟩⟩
        | false =>
          go_wp2_with fail
          go_region_held3 (fun w' => w'.cell? ⟨ib, io + (2 * j + 1), none⟩ = some (.int .i64 (f (2 * j + 1))) ∧ w'.cell? ⟨ib, io + 2 * j, none⟩ = some (.int .i64 (f (2 * j))))
            (first
              | go_keep
              | exact ⟨hk3.cell (Kept.cell (S := All) (by first | exact ((Kept.refl _ _).alloc _) | exact ((Kept.refl _ _).alloc _).drew | exact ((Kept.refl _ _).drew.alloc _)) i1 trivial) trivial, hk3.cell (Kept.cell (S := All) (by first | exact ((Kept.refl _ _).alloc _) | exact ((Kept.refl _ _).alloc _).drew | exact ((Kept.refl _ _).drew.alloc _)) i0 trivial) trivial⟩)
            ((go_at_call 36; refine (off_any _ 1 1 (fun _ => f (2 * j)) 0 (f (2 * j + 1) - 1) _ (by omega) (by exact nums_one _ _ (by simp))).mono ?_; rintro e w3 ⟨rfl, hk3⟩))
          have hk4 : Kept All w2 w3 := hkr.trans (Kept.trans (by first | exact ((Kept.refl _ _).alloc _) | exact ((Kept.refl _ _).alloc _).drew | exact ((Kept.refl _ _).drew.alloc _)) hk3)
          rw [any_one, hb]
          go_wp2_with fail
          go_roundw
          case rel =>
            refine ⟨j + 1, by omega, by simp; omega, fun q hq => ?_, hk4⟩
            by_cases e : q = j
            · subst e; exact hb
            · exact hall.out q (by omega)
          case measure => simp [intOf]; omega
      · have hbad : badIx f n = false := badIx_false fun q hq => hall.out q (by omega)
        have sj1 : IntKind.i64.wrap (2 * (j : Int) + 1) = 2 * (j : Int) + 1 := IntWalk.i64_in _ (by omega)
        have HB := Lib.hid hbad
        have hoth := ho wr HC.out hbad (hk2.trans hkr)
        clear hbad
        by_cases hoz : other = 0
        · subst hoz
          go_wp2_with fail
          refine hoth.mono ?_
          rintro e w3 ⟨rfl, hk3⟩
          clear hoth
          have hk4 := (hk2.trans hkr).trans hk3
          have hB3 := hB1.kept ((hkr0.trans hkr).trans hk3) trivial
          have b0 := hB3.at 0 rfl
          have b1 := hB3.at 1 rfl
          go_wp2_with fail
          refine (look_any h 0 A c D d _ (hin.kept hk4 (fun _ _ => trivial))).mono ?_
          rintro e w4 ⟨rfl, hk5, hsz, hp⟩
          have hv : Valid h := valid_of_chk HC.out
          clear b0 b1
          cases hem : (truths h 0).isEmpty with
          | true =>
            go_wp2_with fail
            refine (some_any hv hp (by omega)).mono ?_
            rintro e w5 ⟨rfl, hs5, hk6, hc5⟩
            rw [hem]
            go_wp2_with fail
            go_ret2
            have q1 := hk4.size
            have q2 := hk5.size
            exact ⟨(hk4.trans hk5).weld hk6 (fun k hk => by omega), .inl ⟨by simp [entErr, HC.out, HB.out, hem], by simp [entErr, HC.out, HB.out, hem]⟩⟩
          | false =>
            go_wp2_with fail
            refine (some_any hv hp (by omega)).mono ?_
            rintro e w5 ⟨rfl, hs5, hk6, hc5⟩
            rw [hem]
            go_wp2_with fail
            go_ret2
            have q1 := hk4.size
            have q2 := hk5.size
            exact ⟨(hk4.trans hk5).weld hk6 (fun k hk => by omega), .inr ⟨by simp [entErr, HC.out, HB.out, hem], _, _, _, rfl, hp.recache hk6 hc5 (fun k hk h => ⟨by omega, h⟩), by omega, by omega⟩⟩
        · have hoz' : (other != 0) = true := by simpa using hoz
          have HZ := Lib.hid hoz
          clear hoz
          go_wp2_with fail
          refine hoth.mono ?_
          rintro e w3 ⟨rfl, hk3⟩
          clear hoth
          go_wp2_with fail
          go_ret2
          exact ⟨(hk2.trans hkr).trans hk3, .inl ⟨by simp [entErr, HC.out, HB.out, HZ.out], by simp [entErr, HC.out, HB.out, HZ.out]⟩⟩
  · have hc' : ((chk h).2.2 != 0) = true := by simpa using hc
    have HC := Lib.hid hc
    clear hc
    go_enter Try.func37, Try.ntmps37
    go_wp2_with fail
    refine (check_any h A c D d _ (hin.kept hk1 (fun _ _ => trivial))).mono ?_
    rintro e w2 ⟨rfl, hk2⟩
    go_wp2_with fail
    go_ret2
    exact ⟨hk1.trans hk2, .inl ⟨by rw [entErr, if_pos HC.out]; exact HC.out, by rw [entErr, if_pos HC.out]; rfl⟩⟩
end Go.Proofs.Ytiajiahfmfckjaa
