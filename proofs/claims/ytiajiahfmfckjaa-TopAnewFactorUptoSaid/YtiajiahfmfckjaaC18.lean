/- The plain law of package factor's Next, and its walk. -/
import Derived.Test.YtiajiahfmfckjaaC17
namespace Go.Proofs.Ytiajiahfmfckjaa
open Go.RowKit
set_option maxRecDepth 10000

def OkR (q : Int × Int) : Prop := (1 ≤ q.1 ∧ q.1 ≤ 300) ∧ 1 ≤ q.2 ∧ q.2 ≤ 300
theorem lowI_ok {m n : Int} (h1 : 1 ≤ m ∧ m ≤ 300) (h2 : 1 ≤ n ∧ n ≤ 300) : OkR (lowI m n) := by
  have hg : 0 < gcdI m n := Nat.gcd_pos_of_pos_left _ (by omega)
  have d1 : 1 ≤ m.toNat / gcdI m n := Nat.div_pos (Nat.le_of_dvd (by omega) (Nat.gcd_dvd_left _ _)) hg
  have d2 : 1 ≤ n.toNat / gcdI m n := Nat.div_pos (Nat.le_of_dvd (by omega) (Nat.gcd_dvd_right _ _)) hg
  have e1 := Nat.div_le_self m.toNat (gcdI m n)
  have e2 := Nat.div_le_self n.toNat (gcdI m n)
  unfold OkR lowI
  generalize m.toNat / gcdI m n = p at *
  generalize n.toNat / gcdI m n = r at *
  dsimp only
  omega
theorem betLo_ok {q s : Int × Int} (hq : OkR q) (hs : OkR s ∨ s.2 = 0) : OkR (betLo q s) := by
  unfold betLo
  split
  · exact hq
  · split
    · exact hq
    · rename_i hne _; exact hs.resolve_right hne
theorem betHi_ok {q s : Int × Int} (hq : OkR q) (hs : OkR s ∨ s.2 = 0) : OkR (betHi q s) := by
  unfold betHi
  split
  · exact hq
  · split
    · exact hq
    · rename_i hne _; exact hs.resolve_right hne
theorem foldl_ok {a b : Nat} : ∀ (l : List (F3 × N4)) (s : (Int × Int) × (Int × Int)), (∀ t ∈ l, OkR (lowI (t.1.get a) (t.1.get b))) → (OkR s.1 ∨ s.1.2 = 0) → (OkR s.2 ∨ s.2.2 = 0) → l ≠ [] →
    OkR (l.foldl (betStep a b) s).1 ∧ OkR (l.foldl (betStep a b) s).2
  | [], s, _, _, _, hn => absurd rfl hn
  | t :: l, s, ht, h1, h2, _ => by
    have k1 := betLo_ok (ht t (by simp)) h1
    have k2 := betHi_ok (ht t (by simp)) h2
    rw [List.foldl_cons]
    by_cases hl : l = []
    · subst hl; exact ⟨k1, k2⟩
    · exact foldl_ok l _ (fun t h => ht t (by simp [h])) (.inl k1) (.inl k2) hl
theorem betL_ok {h : House} (hv : Valid h) {a b : Nat} (ha : a < h.ws.length) (hb : b < h.ws.length) (hn : truths h 0 ≠ []) : OkR (betL a b (truths h 0)).1 ∧ OkR (betL a b (truths h 0)).2 :=
  foldl_ok _ _ (fun t ht => lowI_ok (truths_ge hv ht a ha) (truths_ge hv ht b hb)) (.inr rfl) (.inr rfl) hn

/-- the state of Next's search: the pair, the best spread, whether one was found -/
structure NS where
  a : Nat
  b : Nat
  best : Int × Int
  found : Bool
def sprd (h : House) (k i : Nat) : Int × Int := lowI ((betL k i (truths h 0)).2.1 * (betL k i (truths h 0)).1.2) ((betL k i (truths h 0)).2.2 * (betL k i (truths h 0)).1.1)
def nsCond (s : NS) (sp : Int × Int) (k i : Nat) : Bool := lessI s.best sp || (s.found && (sp == s.best) && (decide (k < s.a) || (decide (k = s.a) && decide (i < s.b))))
def nsStep (h : House) (i : Nat) (s : NS) (k : Nat) : NS := if nsCond s (sprd h k i) k i then ⟨k, i, sprd h k i, true⟩ else s
def nsRow (h : House) (i : Nat) (s : NS) : Nat → NS
  | 0 => s
  | k + 1 => nsStep h i (nsRow h i s k) k
def nsAll (h : House) : Nat → NS
  | 0 => ⟨0, 0, (1, 1), false⟩
  | i + 1 => nsRow h i (nsAll h i) i
def nextE (h : House) : Int := entErr h (fun _ => 0) 0 0
def nextA (h : House) : Int × Int × Int :=
  if nextE h ≠ 0 then (0, 0, nextE h) else if (nsAll h h.ws.length).found then ((nsAll h h.ws.length).a, (nsAll h h.ws.length).b, 0) else (0, 0, 9)

def NRel (base hb km : Nat) (h : House) (A : Option Addr) (c : Nat) (D : Option Addr) (d : Nat) (w1 : World) (s : NS) (wr : World) : Prop :=
  HP base wr hb km h 0 A c D d ∧ base ≤ wr.heap.size ∧ Kept (fun k => k < w1.heap.size ∧ k ≠ km) w1 wr ∧ Blk wr w1.heap.size 48 #[.int .i64 s.best.1, .int .i64 s.best.2]

theorem NRel.store {base hb km : Nat} {h : House} {A : Option Addr} {c : Nat} {D : Option Addr} {d : Nat} {w1 wr : World} {x0 x1 : Value} (hp : HP base wr hb km h 0 A c D d) (h1 : base ≤ wr.heap.size) (hk : Kept (fun k => k < w1.heap.size ∧ k ≠ km) w1 wr)
    (hT : Blk wr w1.heap.size 48 #[x0, x1]) (hb1 : base ≤ w1.heap.size) (a b : Nat) (v : Int × Int) (f : Bool) : NRel base hb km h A c D d w1 ⟨a, b, v, f⟩ ((wr.setCell ⟨w1.heap.size, 0, none⟩ (.int .i64 v.1)).setCell ⟨w1.heap.size, 1, none⟩ (.int .i64 v.2)).drew := by
  have hq : Kept (fun k => k ≠ w1.heap.size) wr ((wr.setCell ⟨w1.heap.size, 0, none⟩ (.int .i64 v.1)).setCell ⟨w1.heap.size, 1, none⟩ (.int .i64 v.2)).drew := (((Kept.refl _ _).setCell (fun _ h => h rfl) _).setCell (fun _ h => h rfl) _).drew
  exact ⟨hp.kept hq (fun k hk' => by omega), Nat.le_trans h1 hq.size, hk.trans (hq.mono fun k _ h => by omega), ((hT.set 0 _).set 1 _).drew⟩

set_option maxHeartbeats 4000000 in
theorem Next_any (h : House) (A : Option Addr) (c : Nat) (D : Option Addr) (d : Nat) (w : World) (hin : HIn w h A c D d) :
    Calls Try.prog 22 #[.agg #[.slice A h.ws.length c, .slice D h.days.length d]] w fun e w' => e = .returned (.tuple #[.int .i64 (nextA h).1, .int .i64 (nextA h).2.1, .int .i64 (nextA h).2.2]) ∧ Kept All w w' := by
  have hnw := hin.nw
  have hnd := hin.nd
  go_enter Try.func22, Try.ntmps22
  go_wp2_with fail
  obtain ⟨w0, hw0⟩ : ∃ w0, w.alloc (.cells #[.slice A h.ws.length c, .slice D h.days.length d] 25) = w0 := ⟨_, rfl⟩
  have hk0 : Kept All w w0 := by rw [← hw0]; exact (Kept.refl _ _).alloc _
  have hC0 : Blk w0 w.heap.size 25 #[.slice A h.ws.length c, .slice D h.days.length d] := by rw [← hw0]; exact Blk.new _ _ _
  have hz0 : w0.heap.size = w.heap.size + 1 := by rw [← hw0]; simp
  rw [hw0]
  clear hw0
  refine (enter_any h A c D d _ (hin.kept hk0 (fun _ _ => trivial)) _ 0 _ (fun _ => 0) (fun hh => by omega) (by omega) (fun j hj => by omega) 38 #[] 0 (enters_of Try.func38 (by kernel_rfl) rfl) (fun w' _ _ _ => (fine_any w').mono (by rintro e w'' ⟨rfl, rfl⟩; exact ⟨rfl, Kept.refl _ _⟩))).mono ?_
  rintro e w1 ⟨hk1, hh⟩
  have hC1 := hC0.kept hk1 trivial
  have hk2 := hk0.trans hk1
  clear hk1
  have c0 := hC1.at 0 rfl
  have lc := hC1.lt
  rcases hh with ⟨hne, rfl⟩ | ⟨hz, base, hb, km, rfl, hp, hbs, hkm⟩
  · have hne' : (entErr h (fun _ => 0) 0 0 != 0) = true := by simpa using hne
    have hA : nextA h = (0, 0, nextE h) := by rw [nextA, if_pos (show nextE h ≠ 0 from hne)]
    have HA := Lib.hid hA
    clear hne hA
    go_wp2_with fail
    go_ret3
    exact ⟨by rw [HA.out]; rfl, hk2⟩
  · obtain ⟨hv, -, -, htn⟩ := entErr_zero hz
    have HZ := Lib.hid hz
    clear hz
    go_wp2_with fail
    have hkb := hp.klt
    have hR0 : NRel base hb km h A c D d w1 (nsAll h 0) (w1.alloc (.cells #[.int .i64 1, .int .i64 1] 48)) :=
      ⟨hp.kept ((Kept.refl All _).alloc _) (fun _ _ => trivial), by simp; omega, (Kept.refl _ _).alloc _, Blk.new _ _ _⟩
    have hC2 := hC1.alloc (.cells #[.int .i64 1, .int .i64 1] 48)
    clear c0
    have hn3 := hv.nw
    go_loopw [25, 2, 3, 7] (fun ti ta tb tf wr => ∃ i : Nat, i ≤ h.ws.length ∧ ti = .int .i64 i ∧ ta = .int .i64 (nsAll h i).a ∧ tb = .int .i64 (nsAll h i).b ∧ tf = .bool (nsAll h i).found ∧ NRel base hb km h A c D d w1 (nsAll h i) wr) (fun ti _ _ _ _ => h.ws.length - (intOf ti).toNat)
    case atStart => exact ⟨0, by omega, rfl, rfl, rfl, rfl, hR0⟩
    case round =>
      obtain ⟨i, hi, rfl, rfl, rfl, rfl, hR⟩ := hrel
      by_cases hlt : i < h.ws.length
      · have hii : (i : Int) < (h.ws.length : Int) := by omega
        go_wp2_with fail
        go_loopw [29, 2, 3, 7] (fun tk ta tb tf wq => ∃ k : Nat, k ≤ i ∧ tk = .int .i64 k ∧ ta = .int .i64 (nsRow h i (nsAll h i) k).a ∧ tb = .int .i64 (nsRow h i (nsAll h i) k).b ∧ tf = .bool (nsRow h i (nsAll h i) k).found ∧ NRel base hb km h A c D d w1 (nsRow h i (nsAll h i) k) wq) (fun tk _ _ _ _ => i - (intOf tk).toNat)
        case atStart => exact ⟨0, by omega, rfl, rfl, rfl, rfl, hR⟩
        case round =>
          obtain ⟨k, hk, rfl, rfl, rfl, rfl, hQ⟩ := hrel
          by_cases hlk : k < i
          · have hki : (k : Int) < (i : Int) := by omega
            have hst : nsRow h i (nsAll h i) (k + 1) = nsStep h i (nsRow h i (nsAll h i) k) k := rfl
            obtain ⟨s, hs⟩ : ∃ s, nsRow h i (nsAll h i) k = s := ⟨_, rfl⟩
            rw [hs] at hQ hst
            rw [hs]
            clear hs
            obtain ⟨hq1, hq2, hq3, hq4⟩ := hQ
            obtain ⟨⟨e1, e2⟩, e3, e4⟩ := betL_ok hv (show k < h.ws.length by omega) hlt htn
            obtain ⟨u, hu⟩ : ∃ u, betL k i (truths h 0) = u := ⟨_, rfl⟩
            have hsp : sprd h k i = lowI (u.2.1 * u.1.2) (u.2.2 * u.1.1) := by rw [sprd, hu]
            have hbt := between_any hv hq1 hq2 k i (show k < h.ws.length by omega) hlt
            rw [hu] at hbt e1 e2 e3 e4
            rw [nsStep, hsp] at hst
            clear hu hsp
            obtain ⟨P1, hP1⟩ : ∃ P, u.2.1 * u.1.2 = P := ⟨_, rfl⟩
            obtain ⟨P2, hP2⟩ : ∃ P, u.2.2 * u.1.1 = P := ⟨_, rfl⟩
            have b1 : 1 ≤ P1 ∧ P1 ≤ 90000 := by
              rw [← hP1]
              exact ⟨Int.mul_pos (show 0 < u.2.1 by omega) (show 0 < u.1.2 by omega), Int.le_trans (Int.mul_le_mul e3.2 e2.2 (by omega) (by omega)) (by decide)⟩
            have b2 : 1 ≤ P2 ∧ P2 ≤ 90000 := by
              rw [← hP2]
              exact ⟨Int.mul_pos (show 0 < u.2.2 by omega) (show 0 < u.1.1 by omega), Int.le_trans (Int.mul_le_mul e4.2 e1.2 (by omega) (by omega)) (by decide)⟩
            rw [hP1, hP2] at hst
            have s1 : IntKind.i64.wrap (u.2.1 * u.1.2) = P1 := by rw [hP1]; exact IntWalk.i64_in _ (by omega)
            have s2 : IntKind.i64.wrap (u.2.2 * u.1.1) = P2 := by rw [hP2]; exact IntWalk.i64_in _ (by omega)
            have hlow := fun W => low_int P1 P2 (by omega) (by omega) (by omega) (by omega) W
            obtain ⟨v, hv'⟩ : ∃ v, lowI P1 P2 = v := ⟨_, rfl⟩
            rw [hv'] at hlow hst
            clear hv' e1 e2 e3 e4 hP1 hP2 b1 b2
            go_wp2_with fail
            refine hbt.mono ?_
            rintro e w2 ⟨rfl, hk3, hc3⟩
            clear hbt
            have hz3 := hk3.size
            have T2 := hq4.kept hk3 ⟨hq4.lt, by omega⟩
            have lT := T2.lt
            have hp2 := hq1.recache hk3 hc3 (fun k hk h => ⟨by omega, h⟩)
            have hk4 : Kept (fun k => k < w1.heap.size ∧ k ≠ km) w1 w2 := hq3.trans (hk3.mono fun k hk h => ⟨by have := hq3.size; omega, h.2⟩)
            go_wp2_with fail
            refine (hlow _).mono ?_
            rintro e w3 ⟨rfl, hk5⟩
            clear hlow
            have T3 := ((T2.alloc _).alloc _).kept hk5 trivial
            have hp3 := (hp2.kept ((((Kept.refl All w2).alloc _).alloc _).trans hk5) (fun _ _ => trivial))
            have hk6 := hk4.trans (((((Kept.refl All w2).alloc _).alloc _).trans hk5).all)
            have hz5 := hk5.size
            simp at hz5
            clear T2 hp2 hk4 hq4 hq1 hq3 hk3 hk5 lT
            have lT := T3.lt
            have t0 := T3.at 0 rfl
            have t1 := T3.at 1 rfl
            go_wp2_with fail
            refine (less_any s.best v _).mono ?_
            rintro e w4 ⟨rfl, hk7⟩
            have T4 := (T3.alloc _).kept hk7 trivial
            have V4 := (Blk.new w3 48 #[.int .i64 v.1, .int .i64 v.2]).kept hk7 trivial
            have hp4 := (hp3.kept (((Kept.refl All w3).alloc _).trans hk7) (fun _ _ => trivial))
            have hk8 := hk6.trans ((((Kept.refl All w3).alloc _).trans hk7).all)
            have hz7 := hk7.size
            simp at hz7
            have hbs4 : base ≤ w4.heap.size := by omega
            clear T3 hp3 hk6 hk7 t0 t1 lT
            have lT := T4.lt
            have lV := V4.lt
            have t0 := T4.at 0 rfl
            have t1 := T4.at 1 rfl
            have tz0 := T4.frozen 0
            have tz1 := T4.frozen 1
            have v0 := V4.at 0 rfl
            have v1 := V4.at 1 rfl
            cases hL : lessI s.best v with
            | true =>
              have hc : nsCond s v k i = true := by rw [nsCond, hL]; rfl
              rw [hc, if_pos rfl] at hst
              have HT := Lib.hid hst
              clear hst hc
              go_wp2_with fail
              go_region
              go_wp2_with fail
              refine ⟨⟨k + 1, by omega, by simp, by rw [HT.out], by rw [HT.out], by rw [HT.out], ?_⟩, by simp only [intOf]; omega⟩
              rw [HT.out]
              exact NRel.store hp4 hbs4 hk8 T4 hbs k i v true
            | false =>
              have hq : nsCond s v k i = (s.found && (v == s.best) && (decide (k < s.a) || (decide (k = s.a) && decide (i < s.b)))) := by rw [nsCond, hL]; rfl
              rw [hq] at hst
              clear hq
              cases hf : s.found with
              | false =>
                rw [hf] at hst
                simp only [Bool.false_and, Bool.false_eq_true, if_false] at hst
                have HT := Lib.hid hst
                clear hst
                have HF := Lib.hid hf
                go_wp2_with fail
                refine ⟨⟨k + 1, by omega, by simp, by rw [HT.out], by rw [HT.out], by rw [HT.out]; simp [HF.out], ?_⟩, by simp only [intOf]; omega⟩
                rw [HT.out]
                exact ⟨hp4, hbs4, hk8, T4⟩
              | true =>
                rw [hf] at hst
                simp only [Bool.true_and] at hst
                have HF := Lib.hid hf
                by_cases q1 : v.1 = s.best.1
                · by_cases q2 : v.2 = s.best.2
                  · have he : Hid (v = s.best) := Lib.hid (Prod.ext q1 q2)
                    have he' : (v == s.best) = true := by simp [he.out]
                    have q1' : (v.1 == s.best.1) = true := by simp [q1]
                    have q2' : (v.2 == s.best.2) = true := by simp [q2]
                    rw [he'] at hst
                    simp only [Bool.true_and] at hst
                    clear he'
                    by_cases g1 : k < s.a
                    · have g1i : (k : Int) < (s.a : Int) := by omega
                      have HT : Hid (nsRow h i (nsAll h i) (k + 1) = ⟨k, i, v, true⟩) := Lib.hid (by rw [hst]; simp [g1])
                      clear hst
                      go_wp2_with fail
                      go_region
                      go_wp2_with fail
                      refine ⟨⟨k + 1, by omega, by simp, by rw [HT.out], by rw [HT.out], by rw [HT.out], ?_⟩, by simp only [intOf]; omega⟩
                      rw [HT.out]
                      have hfin := NRel.store hp4 hbs4 hk8 T4 hbs k i v true
                      rw [q1, q2] at hfin
                      exact hfin
                    · have g1i : ¬ (k : Int) < (s.a : Int) := by omega
                      by_cases g2 : k = s.a
                      · have g2i : ((k : Int) == (s.a : Int)) = true := by simp [g2]
                        have G2 := Lib.hid g2
                        by_cases g3 : i < s.b
                        · have g3i : (i : Int) < (s.b : Int) := by omega
                          have HT : Hid (nsRow h i (nsAll h i) (k + 1) = ⟨k, i, v, true⟩) := Lib.hid (by rw [hst]; simp [g2, g3])
                          clear hst g2
                          go_wp2_with fail
                          go_region
                          go_wp2_with fail
                          refine ⟨⟨k + 1, by omega, by simp, by rw [HT.out], by rw [HT.out], by rw [HT.out], ?_⟩, by simp only [intOf]; omega⟩
                          rw [HT.out]
                          have hfin := NRel.store hp4 hbs4 hk8 T4 hbs k i v true
                          rw [q1, q2] at hfin
                          exact hfin
                        · have g3i : ¬ (i : Int) < (s.b : Int) := by omega
                          have HT : Hid (nsRow h i (nsAll h i) (k + 1) = s) := Lib.hid (by rw [hst]; simp [g2, g3])
                          clear hst g2
                          go_wp2_with fail
                          refine ⟨⟨k + 1, by omega, by simp, by rw [HT.out], by rw [HT.out], by rw [HT.out]; simp [HF.out], ?_⟩, by simp only [intOf]; omega⟩
                          rw [HT.out]
                          exact ⟨hp4, hbs4, hk8, T4⟩
                      · have g2i : ((k : Int) == (s.a : Int)) = false := by simp; omega
                        have HT : Hid (nsRow h i (nsAll h i) (k + 1) = s) := Lib.hid (by rw [hst]; simp [g1, g2])
                        clear hst
                        go_wp2_with fail
                        refine ⟨⟨k + 1, by omega, by simp, by rw [HT.out], by rw [HT.out], by rw [HT.out]; simp [HF.out], ?_⟩, by simp only [intOf]; omega⟩
                        rw [HT.out]
                        exact ⟨hp4, hbs4, hk8, T4⟩
                  · have he' : (v == s.best) = false := by simp; intro he; exact q2 (by rw [he])
                    have q1' : (v.1 == s.best.1) = true := by simp [q1]
                    have q2' : (v.2 == s.best.2) = false := by simp [q2]
                    rw [he'] at hst
                    clear he'
                    have HT : Hid (nsRow h i (nsAll h i) (k + 1) = s) := Lib.hid (by rw [hst]; simp)
                    clear hst
                    go_wp2_with fail
                    refine ⟨⟨k + 1, by omega, by simp, by rw [HT.out], by rw [HT.out], by rw [HT.out]; simp [HF.out], ?_⟩, by simp only [intOf]; omega⟩
                    rw [HT.out]
                    exact ⟨hp4, hbs4, hk8, T4⟩
                · have he' : (v == s.best) = false := by simp; intro he; exact q1 (by rw [he])
                  have q1' : (v.1 == s.best.1) = false := by simp [q1]
                  rw [he'] at hst
                  clear he'
                  have HT : Hid (nsRow h i (nsAll h i) (k + 1) = s) := Lib.hid (by rw [hst]; simp)
                  clear hst
                  go_wp2_with fail
                  refine ⟨⟨k + 1, by omega, by simp, by rw [HT.out], by rw [HT.out], by rw [HT.out]; simp [HF.out], ?_⟩, by simp only [intOf]; omega⟩
                  rw [HT.out]
                  exact ⟨hp4, hbs4, hk8, T4⟩
          · obtain rfl : k = i := by omega
            go_wp2_with fail
            refine ⟨⟨k + 1, by omega, by simp, rfl, rfl, rfl, hQ⟩, ?_⟩
            simp only [intOf]; omega
      · have hin2 : h.ws.length = i := by omega
        have hkf : Kept All w wr := hk2.weld hR.2.2.1 (fun k hk => by have := hk2.size; omega)
        cases hf : (nsAll h i).found with
        | true =>
          have hA : nextA h = (((nsAll h i).a : Int), ((nsAll h i).b : Int), 0) := by rw [nextA, if_neg (fun hn => hn (show nextE h = 0 from HZ.out)), hin2, if_pos hf]
          have HA := Lib.hid hA
          clear hA hin2
          go_wp2_with fail
          go_ret3
          exact ⟨by rw [HA.out]; rfl, hkf⟩
        | false =>
          have hA : nextA h = (0, 0, 9) := by rw [nextA, if_neg (fun hn => hn (show nextE h = 0 from HZ.out)), hin2, if_neg (by simp [hf])]
          have HA := Lib.hid hA
          clear hA hin2
          go_wp2_with fail
          go_ret3
          exact ⟨by rw [HA.out]; rfl, hkf⟩
end Go.Proofs.Ytiajiahfmfckjaa
