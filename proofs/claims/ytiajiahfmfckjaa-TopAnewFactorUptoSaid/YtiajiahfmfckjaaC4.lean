/- The walks of package factor's look and day. -/
import Derived.Test.YtiajiahfmfckjaaC3
import Derived.Test.YtiajiahfmfckjaaSq
import Derived.Test.YtiajiahfmfckjaaBm
namespace Go.Proofs.Ytiajiahfmfckjaa
open Go.RowKit
set_option maxRecDepth 10000

abbrev fV (f : F3) : Value := .agg #[.int .i64 f.a, .int .i64 f.b, .int .i64 f.c]
abbrev fC (f : F3) : Array Value := #[.int .i64 f.a, .int .i64 f.b, .int .i64 f.c]
abbrev nC (n : N4) : Array Value := #[.int .i64 n.a.1, .int .i64 n.a.2, .int .i64 n.b.1, .int .i64 n.b.2, .int .i64 n.c.1, .int .i64 n.c.2, .int .i64 n.d.1, .int .i64 n.d.2]
abbrev nV (n : N4) : Value := .agg (nC n)
def GoodN (h : House) (but : Int) (k : Int × Int × Int) (v : Value) : Prop := v = nV (numbersOf h but ⟨k.1, k.2.1, k.2.2⟩)

/-- the house's parts lie below base, and have lain so -/
def HInB (base : Nat) (w : World) (h : House) (A : Option Addr) (c : Nat) (D : Option Addr) (d : Nat) : Prop :=
  ∃ w0, w0.heap.size ≤ base ∧ HIn w0 h A c D d ∧ Kept (fun k => k < base) w0 w
theorem HInB.inn {base : Nat} {w : World} {h : House} {A : Option Addr} {c : Nat} {D : Option Addr} {d : Nat} (hb : HInB base w h A c D d) : HIn w h A c D d := by
  obtain ⟨w0, h1, h2, h3⟩ := hb
  exact h2.kept h3 (fun k hk => by omega)
theorem HInB.kept {base : Nat} {S : Nat → Prop} {w w' : World} {h : House} {A : Option Addr} {c : Nat} {D : Option Addr} {d : Nat} (hb : HInB base w h A c D d) (hk : Kept S w w') (hS : ∀ k, k < base → S k) : HInB base w' h A c D d := by
  obtain ⟨w0, h1, h2, h3⟩ := hb
  exact ⟨w0, h1, h2, h3.trans (hk.mono fun k _ hlt => hS k hlt)⟩

/-- a house that is looked at: its struct is block hb, its map block km -/
structure HP (base : Nat) (w : World) (hb km : Nat) (h : House) (but : Int) (A : Option Addr) (c : Nat) (D : Option Addr) (d : Nat) : Prop where
  blk : Blk w hb 112 #[.slice A h.ws.length c, .slice D h.days.length d, .int .i64 but, .map (some km)]
  cache : Cache w km enc3 (GoodN h but)
  inn : HInB km w h A c D d
  hlt : hb < base
  klt : km < base
  ne : hb ≠ km
theorem HP.kept {base : Nat} {S : Nat → Prop} {w w' : World} {hb km : Nat} {h : House} {but : Int} {A : Option Addr} {c : Nat} {D : Option Addr} {d : Nat} (hp : HP base w hb km h but A c D d) (hk : Kept S w w') (hS : ∀ k, k < base → S k) : HP base w' hb km h but A c D d :=
  ⟨hp.blk.kept hk (hS _ hp.hlt), hp.cache.kept hk (hS _ hp.klt), hp.inn.kept hk (fun k h => hS k (Nat.lt_trans h hp.klt)), hp.hlt, hp.klt, hp.ne⟩

theorem look_any (h : House) (but : Int) (A : Option Addr) (c : Nat) (D : Option Addr) (d : Nat) (w : World) (hb : HIn w h A c D d) :
    Calls Try.prog 50 #[.agg #[.slice A h.ws.length c, .slice D h.days.length d], .int .i64 but] w fun e w' =>
      e = .returned (.pointer (some ⟨w.heap.size + 2, 0, none⟩)) ∧ Kept All w w' ∧ w'.heap.size = w.heap.size + 3 ∧ HP (w.heap.size + 3) w' (w.heap.size + 2) (w.heap.size + 1) h but A c D d := by
  have hmm := @run_makeMap Try.prog
  go_enter Try.func50, Try.ntmps50
  go_wp2
  go_ret
  have hk : Kept All w (((w.alloc (.cells #[.slice A h.ws.length c, .slice D h.days.length d] 25)).alloc (.map #[] 0)).alloc (.cells #[.slice A h.ws.length c, .slice D h.days.length d, .int .i64 but, .map (some (w.heap.size + 1))] 112)) := (((Kept.refl _ _).alloc _).alloc _).alloc _
  refine ⟨rfl, hk, by simp, ⟨Blk.new' _ _ (by simp), ?_, ⟨w, by omega, hb, hk.all⟩, by omega, by omega, by omega⟩⟩
  have := Cache.made (enc := enc3) (Good := GoodN h but) (w.alloc (.cells #[.slice A h.ws.length c, .slice D h.days.length d] 25))
  rw [World.size_alloc] at this
  exact this.kept ((Kept.refl All _).alloc _) trivial

set_option maxHeartbeats 1000000 in
theorem day_any (base hb km : Nat) (h : House) (but : Int) (A : Option Addr) (c : Nat) (D : Option Addr) (d : Nat) (at_ : Nat) (f : F3) (w : World) (hp : HP base w hb km h but A c D d) (hv : Valid h) (hat : at_ < h.days.length) :
    Calls Try.prog 71 #[.pointer (some ⟨hb, 0, none⟩), .int .i64 at_, fV f] w fun e w' =>
      e = .returned (.agg #[.int .i64 (dayN h but f at_).1, .int .i64 (dayN h but f at_).2]) ∧ Kept All w w' := by
  have hin := hp.inn.inn
  have hnw := hv.nw
  have hnd := hv.nd
  have hdl := Lib.hid (hv.dl at_ hat)
  obtain ⟨db, dof, rfl, hdc⟩ := hin.days (by omega)
  obtain ⟨B, e, c1, hnums, c3⟩ := hdc at_ hat
  clear hdc
  have b0 := hp.blk.at 0 rfl
  have b1 := hp.blk.at 1 rfl
  have b2 := hp.blk.at 2 rfl
  have hbl := hp.blk.lt
  have hdbl : db < w.heap.size := lt_of_cell c1
  rw [hdl.out] at c1 hnums c3
  go_enter Try.func71, Try.ntmps71
  go_wp2_with fail
  clear b0 b1 b2 c1
  have hs0 : w.heap.size + 1 < ((w.alloc (.cells #[.int .i64 f.a, .int .i64 f.b, .int .i64 f.c] 84)).alloc (.cells #[.int .i64 0, .int .i64 39999] 42)).heap.size := by simp
  go_loopw [20] (fun k wr => ∃ j : Nat, j ≤ h.ws.length ∧ k = .int .i64 j ∧ Kept All w wr ∧ Blk wr w.heap.size 84 (fC f) ∧ Blk wr (w.heap.size + 1) 42 #[.int .i64 (dayGo h but f at_ j).1, .int .i64 (dayGo h but f at_ j).2]) (fun k _ => h.ws.length - (intOf k).toNat)
  case atStart => exact ⟨0, by omega, rfl, ((Kept.refl _ _).alloc _).alloc _, (Blk.new _ _ _).alloc _, Blk.new' _ _ (by simp)⟩
  case round =>
    obtain ⟨j, hj, rfl, hkw, hbf, hbs⟩ := hrel
    have hp' := hp.kept hkw (fun _ _ => trivial)
    have hl1 := hbf.lt
    have hl2 := hbs.lt
    have hl3 := hp'.blk.lt
    have r0 := hbs.at 0 rfl
    have r1 := hbs.at 1 rfl
    have z0 := hbs.frozen 0
    have z1 := hbs.frozen 1
    have b0 := hp'.blk.at 0 rfl
    have b1 := hp'.blk.at 1 rfl
    have b2 := hp'.blk.at 2 rfl
    by_cases hlt : j < h.ws.length
    · obtain ⟨nb, no, rfl, hnc⟩ := (hnums.kept hkw (fun _ _ => trivial)) (by omega)
      have n1 := hnc j hlt
      obtain ⟨ab, ao, rfl, hwc⟩ := hp'.inn.inn.wats (by omega)
      obtain ⟨x1, x2, x3, x4⟩ := hwc j hlt
      clear hwc hnc hnums
      by_cases hm1 : ix (h.d at_) j = -1
      · have hm1' : (ix (h.d at_) j == -1) = true := by simp [hm1]
        go_wp2_with fail
        go_quiet (fail)
        have hk2 : Kept All wr (wr.drewN nq) := (Kept.refl _ _).drewN nq
        go_wp2_with fail
        go_roundw
        case rel =>
          refine ⟨j + 1, by omega, by go_num, hkw.trans hk2, hbf.kept hk2 trivial, ?_⟩
          have : dayGo h but f at_ (j + 1) = dayGo h but f at_ j := by
            rw [dayGo, dayStep, if_pos (by rw [skips, hm1']; simp)]
          rw [this]; exact hbs.kept hk2 trivial
        case measure => simp [intOf]; omega
      · have hm1' : (ix (h.d at_) j == -1) = false := by simp [hm1]
        clear hm1
        have hA : at_ * h.ws.length ≤ 9 := Nat.le_trans (Nat.mul_le_mul (show at_ ≤ 3 by omega) hnw) (by omega)
        have hw1 : IntKind.i64.wrap ((at_ : Int) * (h.ws.length : Int)) = (at_ : Int) * (h.ws.length : Int) := by
          rw [← Int.natCast_mul]; exact IntWalk.i64_in _ (by omega)
        obtain ⟨K, hK⟩ : ∃ K, at_ * h.ws.length + j = K := ⟨_, rfl⟩
        have hw2 : IntKind.i64.wrap ((at_ : Int) * (h.ws.length : Int) + (j : Int)) = (K : Int) := by
          rw [← Int.natCast_mul, ← Int.natCast_add, hK]; exact IntWalk.i64_in _ (by omega)
        have hK3 : K ≤ 12 := by omega
        have HK := Lib.hid hK
        clear hK hA
        go_wp2_with fail
        go_quiet (fail)
        have hk2 : Kept All wr (wr.drewN nq) := (Kept.refl _ _).drewN nq
        generalize wr.drewN nq = w2 at hk2 ⊢
        replace hkw := hkw.trans hk2
        replace hbf := hbf.kept hk2 trivial
        replace hbs := hbs.kept hk2 trivial
        cases hbit : bitOf but K with
        | true =>
          have hb' : (bits BinOp.and IntKind.i64 (but / 2 ^ K) 1 == 1) = true := hbit
          go_wp2_with fail
          go_roundw
          case rel =>
            refine ⟨j + 1, by omega, by go_num, hkw, hbf, ?_⟩
            have : dayGo h but f at_ (j + 1) = dayGo h but f at_ j := by
              rw [dayGo, dayStep, if_pos (by rw [skips, HK.out, hbit]; simp)]
            rw [this]; exact hbs
          case measure => simp [intOf]; omega
        | false =>
          have hb' : (bits BinOp.and IntKind.i64 (but / 2 ^ K) 1 == 1) = false := hbit
          have HB := Lib.hid hbit
          have hl1' := hbf.lt
          have hl2' := hbs.lt
          have r0' := hbs.at 0 rfl
          have r1' := hbs.at 1 rfl
          have z0' := hbs.frozen 0
          have z1' := hbs.frozen 1
          have v1 := hk2.cell x1 trivial
          have v2 := hk2.cell x2 trivial
          have v3 := hk2.cell x3 trivial
          have v4 := hk2.cell x4 trivial
          have b0' := hk2.cell b0 trivial
          have b1' := hk2.cell b1 trivial
          have hfi : w2.cell? ⟨w.heap.size, j, none⟩ = some (.int .i64 (f.get j)) := by
            have hj3 : j = 0 ∨ j = 1 ∨ j = 2 := by omega
            rcases hj3 with e | e | e <;> (rw [e]; exact hbf.at _ rfl)
          clear n1 b0 b1 b2 x1 x2 x3 x4 r0 r1 z0 z1 hbit
          have hj3 : (j : Int) < 3 := by omega
          have hj3n : j < 3 := by omega
          obtain ⟨y1, y2⟩ := hv.cnt at_ hat j hlt
          obtain ⟨-, -, -, -, y3, y4⟩ := hv.wat j hlt
          have s1 : IntKind.i64.wrap (ix (h.d at_) j - (h.w j).off) = ix (h.d at_) j - (h.w j).off := IntWalk.i64_in _ (by omega)
          have s2 : IntKind.i64.wrap (ix (h.d at_) j + (h.w j).off) = ix (h.d at_) j + (h.w j).off := IntWalk.i64_in _ (by omega)
          obtain ⟨P1, hP1⟩ : ∃ P, wrap64 (f.get j * (ix (h.d at_) j - (h.w j).off)) = P := ⟨_, rfl⟩
          obtain ⟨P2, hP2⟩ : ∃ P, wrap64 (f.get j * (ix (h.d at_) j + (h.w j).off)) = P := ⟨_, rfl⟩
          have s3 : IntKind.i64.wrap (f.get j * (ix (h.d at_) j - (h.w j).off)) = P1 := (IntWalk.i64_left _).trans hP1
          have s4 : IntKind.i64.wrap (f.get j * (ix (h.d at_) j + (h.w j).off)) = P2 := (IntWalk.i64_left _).trans hP2
          have HP1 := Lib.hid hP1
          have HP2 := Lib.hid hP2
          clear hP1 hP2
          go_wp2_with fail
          refine wp_tail 23 (by kernel_rfl) (by kernel_rfl) ?_
          simp only [List.take_succ_cons, List.take_zero, List.drop_succ_cons, List.drop_zero]
          repeat still_step
          refine wpStill_nil ?_
          go_wp2_with fail
          go_roundw
          case rel =>
            have hd : dayGo h but f at_ (j + 1) = (if (dayGo h but f at_ j).1 < P1 then P1 else (dayGo h but f at_ j).1, if P2 < (dayGo h but f at_ j).2 then P2 else (dayGo h but f at_ j).2) := by
              rw [dayGo, dayStep, if_neg (by rw [skips, HK.out, hm1', HB.out]; simp), HP1.out, HP2.out]
            refine ⟨j + 1, by omega, by go_num, (((hkw.setNew (by simp) _).setNew (by simp) _).alloc _).drew, ((hbf.far (by simp) _).far (by simp) _).alloc _, ?_⟩
            rw [hd]
            exact (((hbs.set 0 _).set 1 _).alloc _)
          case measure => simp [intOf]; omega
    · have hjn : j = h.ws.length := by omega
      have HJ := Lib.hid hjn
      clear hjn
      have hB2 := (hbs.set 0 (.int .i64 (dayGo h but f at_ j).1)).set 1 (.int .i64 (dayGo h but f at_ j).2)
      have q0 := hB2.at 0 rfl
      have q1 := hB2.at 1 rfl
      go_wp2_with fail
      refine bodyPost_ret (v := .agg #[.int .i64 (dayGo h but f at_ j).1, .int .i64 (dayGo h but f at_ j).2]) (by simp [results, Try.results71, go_sem, q0, q1]) rfl ⟨by rw [dayN, HJ.out], ?_⟩
      exact (hkw.setNew (by simp) _).setNew (by simp) _
end Go.Proofs.Ytiajiahfmfckjaa
