/- The walk of package factor's between. -/
import Derived.Test.YtiajiahfmfckjaaC15
namespace Go.Proofs.Ytiajiahfmfckjaa
open Go.RowKit Go.Shelf
attribute [local go_sem] Oper.semAt_some
set_option maxRecDepth 10000

theorem low_int (m n : Int) (h1 : 1 ≤ m) (h2 : m ≤ 1000000000) (h0 : 0 ≤ n) (h3 : n ≤ 1000000000) (w : World) :
    Calls Try.prog 46 #[.int .i64 m, .int .i64 n] w fun e w' => e = .returned (sV (lowI m n)) ∧ Kept All w w' := by
  obtain ⟨m', rfl⟩ := Int.eq_ofNat_of_zero_le (show 0 ≤ m by omega)
  obtain ⟨n', rfl⟩ := Int.eq_ofNat_of_zero_le h0
  exact low_any m' n' (by omega) (by omega) (by omega) w

def betLo (q s : Int × Int) : Int × Int := if s.2 = 0 then q else if lessI q s then q else s
def betHi (q s : Int × Int) : Int × Int := if s.2 = 0 then q else if lessI s q then q else s
def betStep (a b : Nat) (s : (Int × Int) × (Int × Int)) (t : F3 × N4) : (Int × Int) × (Int × Int) :=
  (betLo (lowI (t.1.get a) (t.1.get b)) s.1, betHi (lowI (t.1.get a) (t.1.get b)) s.2)
def betL (a b : Nat) (l : List (F3 × N4)) : (Int × Int) × (Int × Int) := l.foldl (betStep a b) ((0, 0), (0, 0))
theorem betL_snoc (a b : Nat) (l : List (F3 × N4)) (t : F3 × N4) : betL a b (l ++ [t]) = betStep a b (betL a b l) t := by simp [betL]

section
variable {base hb km : Nat} {h : House} {A : Option Addr} {c : Nat} {D : Option Addr} {d : Nat} {w : World}

set_option maxHeartbeats 4000000 in
theorem between_any (hv : Valid h) (hp : HP base w hb km h 0 A c D d) (hbase : base ≤ w.heap.size) (a b : Nat) (ha : a < h.ws.length) (hb' : b < h.ws.length) :
    Calls Try.prog 45 #[ptr hb, .int .i64 a, .int .i64 b] w fun e w' => e = .returned (.tuple #[sV (betL a b (truths h 0)).1, sV (betL a b (truths h 0)).2]) ∧ Kept (fun k => k < w.heap.size ∧ k ≠ km) w w' ∧ Cache w' km enc3 (GoodN h 0) := by
  have hnw := hv.nw
  refine (callsIn_wide (n := 0)).1 (callsIn_of_wp_marks Try.func45 rfl trivial ?_)
  simp only [Try.ntmps45, List.size_toArray, List.length_cons, List.length_nil, Nat.reduceAdd, Nat.reduceSub, Array.replicate_succ, Array.replicate_zero, List.push_toArray, List.append_toArray, List.nil_append, List.cons_append]
  gi_wp2_with fail
  refine ⟨trivial, rfl, open_wide.calls ((truths_any _ _).mono ?_)⟩
  rintro e w1 ⟨rfl, rfl⟩
  gi_wp2_with fail
  obtain ⟨w1, hw1⟩ : ∃ w1, ((((w.alloc (.cells #[.int .i64 a] 3)).alloc (.cells #[.int .i64 b] 3)).alloc (.cells #[.int .i64 0, .int .i64 0] 48)).alloc (.cells #[.int .i64 0, .int .i64 0] 48)).alloc (.cells #[ptr hb] 74) = w1 := ⟨_, rfl⟩
  have hk1 : Kept All w w1 := by rw [← hw1]; exact (((((Kept.refl _ _).alloc _).alloc _).alloc _).alloc _).alloc _
  have hA1 : Blk w1 w.heap.size 3 #[.int .i64 a] := by rw [← hw1]; exact ((((Blk.new _ _ _).alloc _).alloc _).alloc _).alloc _
  have hB1 : Blk w1 (w.heap.size + 1) 3 #[.int .i64 b] := by rw [← hw1]; exact (((Blk.new' _ _ (by simp)).alloc _).alloc _).alloc _
  have hL1 : Blk w1 (w.heap.size + 2) 48 #[.int .i64 0, .int .i64 0] := by rw [← hw1]; exact ((Blk.new' _ _ (by simp)).alloc _).alloc _
  have hM1 : Blk w1 (w.heap.size + 3) 48 #[.int .i64 0, .int .i64 0] := by rw [← hw1]; exact (Blk.new' _ _ (by simp)).alloc _
  have hs1 : Blk w1 (w.heap.size + 4) 74 #[ptr hb] := by rw [← hw1]; exact Blk.new' _ _ (by simp)
  have hz1 : w1.heap.size = w.heap.size + 5 := by rw [← hw1]; simp
  rw [hw1]
  clear hw1
  have hp1 := hp.kept hk1 (fun _ _ => trivial)
  have hkm := hp.klt
  refine wp_range (gf := 70) (caps := #[ptr (w.heap.size + 4)]) rfl (enters_of Try.func70 (by kernel_rfl) rfl) (truths_iter hv hp1 hs1 (by omega))
    (fun A B hc hk => hc.kept hk rfl) (fun _ => rfl) (fun k hk => by omega) (fun k hk => by omega)
    (fun pre W => Blk W w.heap.size 3 #[.int .i64 a] ∧ Blk W (w.heap.size + 1) 3 #[.int .i64 b] ∧ Blk W (w.heap.size + 2) 48 #[.int .i64 (betL a b pre).1.1, .int .i64 (betL a b pre).1.2] ∧
      Blk W (w.heap.size + 3) 48 #[.int .i64 (betL a b pre).2.1, .int .i64 (betL a b pre).2.2] ∧ Kept (fun k => k < w.heap.size ∧ k ≠ km) w W)
    (fun c pre W => False)
    ?_ ?_ ⟨hA1, hB1, hL1, hM1, hk1.all⟩ ?round ?done ?stop
  · rintro pre A B ⟨h1, h2, h3, h4, h5⟩ hA hk
    exact ⟨h1.kept hk ⟨by omega, by omega⟩, h2.kept hk ⟨by omega, by omega⟩, h3.kept hk ⟨by omega, by omega⟩, h4.kept hk ⟨by omega, by omega⟩, h5.trans (hk.mono fun k _ h => ⟨by omega, h.2⟩)⟩
  · rintro c pre A B h hA hk
    exact h
  case round =>
    rintro l' pre y X hl hX hr hi hy
    obtain ⟨rr, hrr⟩ := hr
    have hlX := lt_of_heap hrr
    gi_wp2
    refine ⟨((Kept.refl _ _).alloc _), ?_⟩
    rintro X1 hk ⟨h1, h2, h3, h4, h5⟩
    have hfb := (Blk.new X 84 (fC y.1)).kept hk (by omega)
    have lfb := hfb.lt
    have a0 := h1.at 0 rfl
    have b0 := h2.at 0 rfl
    have fa : X1.cell? ⟨X.heap.size, a, none⟩ = some (.int .i64 (y.1.get a)) := by
      have : a = 0 ∨ a = 1 ∨ a = 2 := by omega
      rcases this with e | e | e <;> (rw [e]; exact hfb.at _ rfl)
    have fb : X1.cell? ⟨X.heap.size, b, none⟩ = some (.int .i64 (y.1.get b)) := by
      have : b = 0 ∨ b = 1 ∨ b = 2 := by omega
      rcases this with e | e | e <;> (rw [e]; exact hfb.at _ rfl)
    have hxa : (a : Int) < 3 := by omega
    have hxan : a < 3 := by omega
    have hxb : (b : Int) < 3 := by omega
    have hxbn : b < 3 := by omega
    have hmem : y ∈ truths h 0 := by
      obtain ⟨q, hq⟩ := hy
      rw [← hq]; simp
    obtain ⟨hg1, hg2⟩ := truths_ge hv hmem a ha
    obtain ⟨hg3, hg4⟩ := truths_ge hv hmem b hb'
    have hstep := betL_snoc a b pre y
    obtain ⟨q, hq⟩ : ∃ q, lowI (y.1.get a) (y.1.get b) = q := ⟨_, rfl⟩
    rw [betStep, hq] at hstep
    have hlow := fun W => low_int (y.1.get a) (y.1.get b) (by omega) (by omega) (by omega) (by omega) W
    rw [hq] at hlow
    clear hg1 hg2 hg3 hg4 hq
    obtain ⟨s, hs⟩ : ∃ s, betL a b pre = s := ⟨_, rfl⟩
    rw [hs] at h3 h4 hstep
    clear hs
    gi_wp2_with fail
    refine wpIn_held (open_round _) (fun w' => w'.cell? ⟨w.heap.size, 0, none⟩ = some (.int .i64 a) ∧ w'.cell? ⟨w.heap.size + 1, 0, none⟩ = some (.int .i64 b) ∧ w'.cell? ⟨X.heap.size, a, none⟩ = some (.int .i64 (y.1.get a)) ∧ w'.cell? ⟨X.heap.size, b, none⟩ = some (.int .i64 (y.1.get b))) (by kernel_rfl) (by kernel_rfl) (by rintro ⟨a, w, h⟩; exact h) ⟨a0, b0, fa, fb⟩ (fun hHeld => ?_)
    simp only [List.size_toArray, List.length_cons, List.length_nil, Nat.reduceAdd, Array.replicate_succ, Array.replicate_zero, List.push_toArray, List.append_toArray, List.nil_append, List.cons_append]
    refine wpAnyH_take (i := 0) (v := ?_) rfl (by kernel_rfl) (by kernel_rfl) (by kernel_rfl) (fun _ _ _ h => h) (Or.inl ⟨by rfl, fun w hSw => ?_⟩) (by assumption) ?_; rotate_left; (dsimp only at hSw; go_simp; try with_reducible rfl); simp only [Act.put, List.setIfInBounds_toArray, List.set_cons_zero, List.set_cons_succ]
    refine wpAnyH_take (i := 1) (v := ?_) rfl (by kernel_rfl) (by kernel_rfl) (by kernel_rfl) (fun _ _ _ h => h) (Or.inl ⟨by rfl, fun w hSw => ?_⟩) (by assumption) ?_; rotate_left; (dsimp only at hSw; go_simp; try with_reducible rfl); simp only [Act.put, List.setIfInBounds_toArray, List.set_cons_zero, List.set_cons_succ]
    refine wpAnyH_take (i := 2) (v := ?_) rfl (by kernel_rfl) (by kernel_rfl) (by kernel_rfl) (fun _ _ _ h => h) (Or.inl ⟨by rfl, fun w hSw => ?_⟩) (by assumption) ?_; rotate_left; (dsimp only at hSw; go_simp; try with_reducible rfl); simp only [Act.put, List.setIfInBounds_toArray, List.set_cons_zero, List.set_cons_succ]
    refine wpAnyH_take (i := 3) (v := ?_) rfl (by kernel_rfl) (by kernel_rfl) (by kernel_rfl) (fun _ _ _ h => h) (Or.inl ⟨by rfl, fun w hSw => ?_⟩) (by assumption) ?_; rotate_left; (dsimp only at hSw; go_simp; try with_reducible rfl); simp only [Act.put, List.setIfInBounds_toArray, List.set_cons_zero, List.set_cons_succ]
    refine wpAnyH_take (i := 4) (v := ?_) rfl (by kernel_rfl) (by kernel_rfl) (by kernel_rfl) (fun _ _ _ h => h) (Or.inl ⟨by rfl, fun w hSw => ?_⟩) (by assumption) ?_; rotate_left; (dsimp only at hSw; go_simp; try with_reducible rfl); simp only [Act.put, List.setIfInBounds_toArray, List.set_cons_zero, List.set_cons_succ]
    refine wpAnyH_take (i := 5) (v := ?_) rfl (by kernel_rfl) (by kernel_rfl) (by kernel_rfl) (fun _ _ _ h => h) (Or.inl ⟨by rfl, fun w hSw => ?_⟩) (by assumption) ?_; rotate_left; (dsimp only at hSw; go_simp; try with_reducible rfl); simp only [Act.put, List.setIfInBounds_toArray, List.set_cons_zero, List.set_cons_succ]
    refine wpAnyH_ready (rs := [6, 7]) (by kernel_rfl) (by simp) ?_
    refine AllReadyH.cons rfl (fun K hK => ?_) (AllReadyH.cons rfl (fun K hK => ?_) AllReadyH.nil)
    · go_simp
      refine (hlow _).mono ?_
      rintro e w' ⟨rfl, hkc⟩
      have hkc' : Kept All X1 w' := (Kept.refl _ _).drew.trans hkc
      refine hK.out _ _ ⟨hkc'.cell a0 trivial, hkc'.cell b0 trivial, hkc'.cell fa trivial, hkc'.cell fb trivial⟩ (fun hHeld2 => ?_)
      clear hK K hHeld
      simp only [Act.put, List.setIfInBounds_toArray, List.set_cons_zero, List.set_cons_succ]
      refine wpAnyH_ready (rs := [7]) (by kernel_rfl) (by simp) ?_
      refine AllReadyH.cons rfl (fun K hK => ?_) AllReadyH.nil
      go_simp
      have hke : ∀ o, Kept All X1 (w'.alloc o) := fun o => hkc'.alloc o
      refine hK.out _ _ ⟨(hke _).cell a0 trivial, (hke _).cell b0 trivial, (hke _).cell fa trivial, (hke _).cell fb trivial⟩ (fun hHeld => ?_)
      clear hK K hHeld2
      simp only [Act.put, List.setIfInBounds_toArray, List.set_cons_zero, List.set_cons_succ]
      refine wpAnyH_ready (rs := [8]) (by kernel_rfl) (by simp) ?_
      refine AllReadyH.cons rfl (fun K hK => ?_) AllReadyH.nil
      go_simp
      refine hK.out _ _ ⟨(hke _).cell a0 trivial, (hke _).cell b0 trivial, (hke _).cell fa trivial, (hke _).cell fb trivial⟩ (fun hHeld2 => ?_)
      clear hK K hHeld
      refine wpAnyH_done (by kernel_rfl) ?_ _
      have hkW : Kept All X1 (w'.alloc (.cells #[.int .i64 q.1, .int .i64 q.2] 48)) := hke _
      have hgB : Blk (w'.alloc (.cells #[.int .i64 q.1, .int .i64 q.2] 48)) w'.heap.size 48 #[.int .i64 q.1, .int .i64 q.2] := Blk.new _ _ _
      have hgX : X1.heap.size ≤ w'.heap.size := hkc'.size
      generalize (w'.alloc (.cells #[.int .i64 q.1, .int .i64 q.2] 48)) = W' at hkW hgB ⊢
      generalize w'.heap.size = g at hgB hgX ⊢
      clear hHeld2 hke hkc hkc' w' a0 b0 fa fb hlow
      have hs3 := hkW.size
      have l3 := h3.kept hkW trivial
      have l4 := h4.kept hkW trivial
      have lg := hgB.lt
      have ll3 := l3.lt
      have ll4 := l4.lt
      have lX1 : X1.heap.size ≤ W'.heap.size := hs3
      have p0 := l3.at 0 rfl
      have p1 := l3.at 1 rfl
      have p2 := l3.frozen 0
      have p3 := l3.frozen 1
      have m0 := l4.at 0 rfl
      have m1 := l4.at 1 rfl
      have m2 := l4.frozen 0
      have m3 := l4.frozen 1
      have g0 := hgB.at 0 rfl
      have g1 := hgB.at 1 rfl
      have gz0 := hgB.frozen 0
      have gz1 := hgB.frozen 1
      by_cases c1 : s.1.2 = 0
      · have c1' : (s.1.2 == 0) = true := by simpa using c1
        have e1 : betLo q s.1 = q := by rw [betLo, if_pos c1]
        clear c1
        by_cases d1 : s.2.2 = 0
        · have d1' : (s.2.2 == 0) = true := by simpa using d1
          have e2 : betHi q s.2 = q := by rw [betHi, if_pos d1]
          clear d1
          have K0 : Kept (fun k => k ≠ w.heap.size + 2 ∧ k ≠ w.heap.size + 3) W' W' := Kept.refl _ _
          gi_wp2_with fail
          refine ⟨trivial, ?_⟩
          have L1 := l3; have M1 := l4; have G1 := hgB; have K1 := K0
          gi_wp2_with fail
          have L2 := (L1.set 0 (.int .i64 q.1)).set 1 (.int .i64 q.2)
          have M2 := (M1.far (p := ⟨w.heap.size + 2, 0, none⟩) (by simp) (.int .i64 q.1)).far (p := ⟨w.heap.size + 2, 1, none⟩) (by simp) (.int .i64 q.2)
          have G2 := (G1.far (p := ⟨w.heap.size + 2, 0, none⟩) (by simp; omega) (.int .i64 q.1)).far (p := ⟨w.heap.size + 2, 1, none⟩) (by simp; omega) (.int .i64 q.2)
          have K2 := (K1.setCell (p := ⟨w.heap.size + 2, 0, none⟩) (fun _ h => h.1 rfl) (.int .i64 q.1)).setCell (p := ⟨w.heap.size + 2, 1, none⟩) (fun _ h => h.1 rfl) (.int .i64 q.2)
          refine ⟨trivial, ?_⟩
          have L3 := L2; have M3 := M2; have G3 := G2; have K3 := K2
          gi_wp2_with fail
          have L4 := (L3.far (p := ⟨w.heap.size + 3, 0, none⟩) (by simp) (.int .i64 q.1)).far (p := ⟨w.heap.size + 3, 1, none⟩) (by simp) (.int .i64 q.2)
          have M4 := (M3.set 0 (.int .i64 q.1)).set 1 (.int .i64 q.2)
          have K4 := (K3.setCell (p := ⟨w.heap.size + 3, 0, none⟩) (fun _ h => h.2 rfl) (.int .i64 q.1)).setCell (p := ⟨w.heap.size + 3, 1, none⟩) (fun _ h => h.2 rfl) (.int .i64 q.2)
          refine ⟨(hkW.all (S := fun k => (k < base ∨ k = w.heap.size + 4) ∨ w1.heap.size ≤ k)).trans (K4.mono fun k _ h => by omega), ?_⟩
          dsimp only
          rw [hstep]
          dsimp only
          rw [e1, e2]
          exact ⟨(h1.kept hkW trivial).kept K4 (by omega), (h2.kept hkW trivial).kept K4 (by omega), L4, M4, (h5.trans (hkW.mono fun k _ _ => trivial)).trans (K4.mono fun k _ h => by omega)⟩
        · have d1' : (s.2.2 == 0) = false := by simpa using d1
          cases d2 : lessI s.2 q with
          | true =>
            have e2 : betHi q s.2 = q := by rw [betHi, if_neg d1, if_pos d2]
            clear d1
            have K0 : Kept (fun k => k ≠ w.heap.size + 2 ∧ k ≠ w.heap.size + 3) W' W' := Kept.refl _ _
            gi_wp2_with fail
            refine ⟨trivial, ?_⟩
            have L1 := l3; have M1 := l4; have G1 := hgB; have K1 := K0
            gi_wp2_with fail
            have L2 := (L1.set 0 (.int .i64 q.1)).set 1 (.int .i64 q.2)
            have M2 := (M1.far (p := ⟨w.heap.size + 2, 0, none⟩) (by simp) (.int .i64 q.1)).far (p := ⟨w.heap.size + 2, 1, none⟩) (by simp) (.int .i64 q.2)
            have G2 := (G1.far (p := ⟨w.heap.size + 2, 0, none⟩) (by simp; omega) (.int .i64 q.1)).far (p := ⟨w.heap.size + 2, 1, none⟩) (by simp; omega) (.int .i64 q.2)
            have K2 := (K1.setCell (p := ⟨w.heap.size + 2, 0, none⟩) (fun _ h => h.1 rfl) (.int .i64 q.1)).setCell (p := ⟨w.heap.size + 2, 1, none⟩) (fun _ h => h.1 rfl) (.int .i64 q.2)
            refine ⟨trivial, rfl, (open_round _).calls ((less_any s.2 q _).mono ?_)⟩
            rintro e W4 ⟨rfl, hkM⟩
            rw [d2]
            clear p0 p1 p2 p3 m0 m1 m2 m3 g0 g1 gz0 gz1
            have L3 := L2.kept hkM trivial; have M3 := M2.kept hkM trivial; have G3 := G2.kept hkM trivial; have K3 := K2.trans hkM.all
            have lL := L3.lt
            have lM := M3.lt
            have lG := G3.lt
            have p0 := L3.at 0 rfl
            have p1 := L3.at 1 rfl
            have p2 := L3.frozen 0
            have p3 := L3.frozen 1
            have m0 := M3.at 0 rfl
            have m1 := M3.at 1 rfl
            have m2 := M3.frozen 0
            have m3 := M3.frozen 1
            have g0 := G3.at 0 rfl
            have g1 := G3.at 1 rfl
            have gz0 := G3.frozen 0
            have gz1 := G3.frozen 1
            gi_wp2_with fail
            have L4 := (L3.far (p := ⟨w.heap.size + 3, 0, none⟩) (by simp) (.int .i64 q.1)).far (p := ⟨w.heap.size + 3, 1, none⟩) (by simp) (.int .i64 q.2)
            have M4 := (M3.set 0 (.int .i64 q.1)).set 1 (.int .i64 q.2)
            have K4 := (K3.setCell (p := ⟨w.heap.size + 3, 0, none⟩) (fun _ h => h.2 rfl) (.int .i64 q.1)).setCell (p := ⟨w.heap.size + 3, 1, none⟩) (fun _ h => h.2 rfl) (.int .i64 q.2)
            refine ⟨(hkW.all (S := fun k => (k < base ∨ k = w.heap.size + 4) ∨ w1.heap.size ≤ k)).trans (K4.mono fun k _ h => by omega), ?_⟩
            dsimp only
            rw [hstep]
            dsimp only
            rw [e1, e2]
            exact ⟨(h1.kept hkW trivial).kept K4 (by omega), (h2.kept hkW trivial).kept K4 (by omega), L4, M4, (h5.trans (hkW.mono fun k _ _ => trivial)).trans (K4.mono fun k _ h => by omega)⟩
          | false =>
            have e2 : betHi q s.2 = s.2 := by rw [betHi, if_neg d1, if_neg (by simp [d2])]
            clear d1
            have K0 : Kept (fun k => k ≠ w.heap.size + 2 ∧ k ≠ w.heap.size + 3) W' W' := Kept.refl _ _
            gi_wp2_with fail
            refine ⟨trivial, ?_⟩
            have L1 := l3; have M1 := l4; have G1 := hgB; have K1 := K0
            gi_wp2_with fail
            have L2 := (L1.set 0 (.int .i64 q.1)).set 1 (.int .i64 q.2)
            have M2 := (M1.far (p := ⟨w.heap.size + 2, 0, none⟩) (by simp) (.int .i64 q.1)).far (p := ⟨w.heap.size + 2, 1, none⟩) (by simp) (.int .i64 q.2)
            have G2 := (G1.far (p := ⟨w.heap.size + 2, 0, none⟩) (by simp; omega) (.int .i64 q.1)).far (p := ⟨w.heap.size + 2, 1, none⟩) (by simp; omega) (.int .i64 q.2)
            have K2 := (K1.setCell (p := ⟨w.heap.size + 2, 0, none⟩) (fun _ h => h.1 rfl) (.int .i64 q.1)).setCell (p := ⟨w.heap.size + 2, 1, none⟩) (fun _ h => h.1 rfl) (.int .i64 q.2)
            refine ⟨trivial, rfl, (open_round _).calls ((less_any s.2 q _).mono ?_)⟩
            rintro e W4 ⟨rfl, hkM⟩
            rw [d2]
            clear p0 p1 p2 p3 m0 m1 m2 m3 g0 g1 gz0 gz1
            have L3 := L2.kept hkM trivial; have M3 := M2.kept hkM trivial; have G3 := G2.kept hkM trivial; have K3 := K2.trans hkM.all
            have lL := L3.lt
            have lM := M3.lt
            have lG := G3.lt
            have p0 := L3.at 0 rfl
            have p1 := L3.at 1 rfl
            have p2 := L3.frozen 0
            have p3 := L3.frozen 1
            have m0 := M3.at 0 rfl
            have m1 := M3.at 1 rfl
            have m2 := M3.frozen 0
            have m3 := M3.frozen 1
            have g0 := G3.at 0 rfl
            have g1 := G3.at 1 rfl
            have gz0 := G3.frozen 0
            have gz1 := G3.frozen 1
            gi_wp2_with fail
            have L4 := L3; have M4 := M3; have K4 := K3
            refine ⟨(hkW.all (S := fun k => (k < base ∨ k = w.heap.size + 4) ∨ w1.heap.size ≤ k)).trans (K4.mono fun k _ h => by omega), ?_⟩
            dsimp only
            rw [hstep]
            dsimp only
            rw [e1, e2]
            exact ⟨(h1.kept hkW trivial).kept K4 (by omega), (h2.kept hkW trivial).kept K4 (by omega), L4, M4, (h5.trans (hkW.mono fun k _ _ => trivial)).trans (K4.mono fun k _ h => by omega)⟩
      · have c1' : (s.1.2 == 0) = false := by simpa using c1
        cases c2 : lessI q s.1 with
        | true =>
          have e1 : betLo q s.1 = q := by rw [betLo, if_neg c1, if_pos c2]
          clear c1
          by_cases d1 : s.2.2 = 0
          · have d1' : (s.2.2 == 0) = true := by simpa using d1
            have e2 : betHi q s.2 = q := by rw [betHi, if_pos d1]
            clear d1
            have K0 : Kept (fun k => k ≠ w.heap.size + 2 ∧ k ≠ w.heap.size + 3) W' W' := Kept.refl _ _
            gi_wp2_with fail
            refine ⟨trivial, rfl, (open_round _).calls ((less_any q s.1 _).mono ?_)⟩
            rintro e W2 ⟨rfl, hkL⟩
            rw [c2]
            clear p0 p1 p2 p3 m0 m1 m2 m3 g0 g1 gz0 gz1
            have L1 := l3.kept hkL trivial; have M1 := l4.kept hkL trivial; have G1 := hgB.kept hkL trivial; have K1 := K0.trans hkL.all
            have lL := L1.lt
            have lM := M1.lt
            have lG := G1.lt
            have p0 := L1.at 0 rfl
            have p1 := L1.at 1 rfl
            have p2 := L1.frozen 0
            have p3 := L1.frozen 1
            have m0 := M1.at 0 rfl
            have m1 := M1.at 1 rfl
            have m2 := M1.frozen 0
            have m3 := M1.frozen 1
            have g0 := G1.at 0 rfl
            have g1 := G1.at 1 rfl
            have gz0 := G1.frozen 0
            have gz1 := G1.frozen 1
            gi_wp2_with fail
            have L2 := (L1.set 0 (.int .i64 q.1)).set 1 (.int .i64 q.2)
            have M2 := (M1.far (p := ⟨w.heap.size + 2, 0, none⟩) (by simp) (.int .i64 q.1)).far (p := ⟨w.heap.size + 2, 1, none⟩) (by simp) (.int .i64 q.2)
            have G2 := (G1.far (p := ⟨w.heap.size + 2, 0, none⟩) (by simp; omega) (.int .i64 q.1)).far (p := ⟨w.heap.size + 2, 1, none⟩) (by simp; omega) (.int .i64 q.2)
            have K2 := (K1.setCell (p := ⟨w.heap.size + 2, 0, none⟩) (fun _ h => h.1 rfl) (.int .i64 q.1)).setCell (p := ⟨w.heap.size + 2, 1, none⟩) (fun _ h => h.1 rfl) (.int .i64 q.2)
            refine ⟨trivial, ?_⟩
            have L3 := L2; have M3 := M2; have G3 := G2; have K3 := K2
            gi_wp2_with fail
            have L4 := (L3.far (p := ⟨w.heap.size + 3, 0, none⟩) (by simp) (.int .i64 q.1)).far (p := ⟨w.heap.size + 3, 1, none⟩) (by simp) (.int .i64 q.2)
            have M4 := (M3.set 0 (.int .i64 q.1)).set 1 (.int .i64 q.2)
            have K4 := (K3.setCell (p := ⟨w.heap.size + 3, 0, none⟩) (fun _ h => h.2 rfl) (.int .i64 q.1)).setCell (p := ⟨w.heap.size + 3, 1, none⟩) (fun _ h => h.2 rfl) (.int .i64 q.2)
            refine ⟨(hkW.all (S := fun k => (k < base ∨ k = w.heap.size + 4) ∨ w1.heap.size ≤ k)).trans (K4.mono fun k _ h => by omega), ?_⟩
            dsimp only
            rw [hstep]
            dsimp only
            rw [e1, e2]
            exact ⟨(h1.kept hkW trivial).kept K4 (by omega), (h2.kept hkW trivial).kept K4 (by omega), L4, M4, (h5.trans (hkW.mono fun k _ _ => trivial)).trans (K4.mono fun k _ h => by omega)⟩
          · have d1' : (s.2.2 == 0) = false := by simpa using d1
            cases d2 : lessI s.2 q with
            | true =>
              have e2 : betHi q s.2 = q := by rw [betHi, if_neg d1, if_pos d2]
              clear d1
              have K0 : Kept (fun k => k ≠ w.heap.size + 2 ∧ k ≠ w.heap.size + 3) W' W' := Kept.refl _ _
              gi_wp2_with fail
              refine ⟨trivial, rfl, (open_round _).calls ((less_any q s.1 _).mono ?_)⟩
              rintro e W2 ⟨rfl, hkL⟩
              rw [c2]
              clear p0 p1 p2 p3 m0 m1 m2 m3 g0 g1 gz0 gz1
              have L1 := l3.kept hkL trivial; have M1 := l4.kept hkL trivial; have G1 := hgB.kept hkL trivial; have K1 := K0.trans hkL.all
              have lL := L1.lt
              have lM := M1.lt
              have lG := G1.lt
              have p0 := L1.at 0 rfl
              have p1 := L1.at 1 rfl
              have p2 := L1.frozen 0
              have p3 := L1.frozen 1
              have m0 := M1.at 0 rfl
              have m1 := M1.at 1 rfl
              have m2 := M1.frozen 0
              have m3 := M1.frozen 1
              have g0 := G1.at 0 rfl
              have g1 := G1.at 1 rfl
              have gz0 := G1.frozen 0
              have gz1 := G1.frozen 1
              gi_wp2_with fail
              have L2 := (L1.set 0 (.int .i64 q.1)).set 1 (.int .i64 q.2)
              have M2 := (M1.far (p := ⟨w.heap.size + 2, 0, none⟩) (by simp) (.int .i64 q.1)).far (p := ⟨w.heap.size + 2, 1, none⟩) (by simp) (.int .i64 q.2)
              have G2 := (G1.far (p := ⟨w.heap.size + 2, 0, none⟩) (by simp; omega) (.int .i64 q.1)).far (p := ⟨w.heap.size + 2, 1, none⟩) (by simp; omega) (.int .i64 q.2)
              have K2 := (K1.setCell (p := ⟨w.heap.size + 2, 0, none⟩) (fun _ h => h.1 rfl) (.int .i64 q.1)).setCell (p := ⟨w.heap.size + 2, 1, none⟩) (fun _ h => h.1 rfl) (.int .i64 q.2)
              refine ⟨trivial, rfl, (open_round _).calls ((less_any s.2 q _).mono ?_)⟩
              rintro e W4 ⟨rfl, hkM⟩
              rw [d2]
              clear p0 p1 p2 p3 m0 m1 m2 m3 g0 g1 gz0 gz1
              have L3 := L2.kept hkM trivial; have M3 := M2.kept hkM trivial; have G3 := G2.kept hkM trivial; have K3 := K2.trans hkM.all
              have lL := L3.lt
              have lM := M3.lt
              have lG := G3.lt
              have p0 := L3.at 0 rfl
              have p1 := L3.at 1 rfl
              have p2 := L3.frozen 0
              have p3 := L3.frozen 1
              have m0 := M3.at 0 rfl
              have m1 := M3.at 1 rfl
              have m2 := M3.frozen 0
              have m3 := M3.frozen 1
              have g0 := G3.at 0 rfl
              have g1 := G3.at 1 rfl
              have gz0 := G3.frozen 0
              have gz1 := G3.frozen 1
              gi_wp2_with fail
              have L4 := (L3.far (p := ⟨w.heap.size + 3, 0, none⟩) (by simp) (.int .i64 q.1)).far (p := ⟨w.heap.size + 3, 1, none⟩) (by simp) (.int .i64 q.2)
              have M4 := (M3.set 0 (.int .i64 q.1)).set 1 (.int .i64 q.2)
              have K4 := (K3.setCell (p := ⟨w.heap.size + 3, 0, none⟩) (fun _ h => h.2 rfl) (.int .i64 q.1)).setCell (p := ⟨w.heap.size + 3, 1, none⟩) (fun _ h => h.2 rfl) (.int .i64 q.2)
              refine ⟨(hkW.all (S := fun k => (k < base ∨ k = w.heap.size + 4) ∨ w1.heap.size ≤ k)).trans (K4.mono fun k _ h => by omega), ?_⟩
              dsimp only
              rw [hstep]
              dsimp only
              rw [e1, e2]
              exact ⟨(h1.kept hkW trivial).kept K4 (by omega), (h2.kept hkW trivial).kept K4 (by omega), L4, M4, (h5.trans (hkW.mono fun k _ _ => trivial)).trans (K4.mono fun k _ h => by omega)⟩
            | false =>
              have e2 : betHi q s.2 = s.2 := by rw [betHi, if_neg d1, if_neg (by simp [d2])]
              clear d1
              have K0 : Kept (fun k => k ≠ w.heap.size + 2 ∧ k ≠ w.heap.size + 3) W' W' := Kept.refl _ _
              gi_wp2_with fail
              refine ⟨trivial, rfl, (open_round _).calls ((less_any q s.1 _).mono ?_)⟩
              rintro e W2 ⟨rfl, hkL⟩
              rw [c2]
              clear p0 p1 p2 p3 m0 m1 m2 m3 g0 g1 gz0 gz1
              have L1 := l3.kept hkL trivial; have M1 := l4.kept hkL trivial; have G1 := hgB.kept hkL trivial; have K1 := K0.trans hkL.all
              have lL := L1.lt
              have lM := M1.lt
              have lG := G1.lt
              have p0 := L1.at 0 rfl
              have p1 := L1.at 1 rfl
              have p2 := L1.frozen 0
              have p3 := L1.frozen 1
              have m0 := M1.at 0 rfl
              have m1 := M1.at 1 rfl
              have m2 := M1.frozen 0
              have m3 := M1.frozen 1
              have g0 := G1.at 0 rfl
              have g1 := G1.at 1 rfl
              have gz0 := G1.frozen 0
              have gz1 := G1.frozen 1
              gi_wp2_with fail
              have L2 := (L1.set 0 (.int .i64 q.1)).set 1 (.int .i64 q.2)
              have M2 := (M1.far (p := ⟨w.heap.size + 2, 0, none⟩) (by simp) (.int .i64 q.1)).far (p := ⟨w.heap.size + 2, 1, none⟩) (by simp) (.int .i64 q.2)
              have G2 := (G1.far (p := ⟨w.heap.size + 2, 0, none⟩) (by simp; omega) (.int .i64 q.1)).far (p := ⟨w.heap.size + 2, 1, none⟩) (by simp; omega) (.int .i64 q.2)
              have K2 := (K1.setCell (p := ⟨w.heap.size + 2, 0, none⟩) (fun _ h => h.1 rfl) (.int .i64 q.1)).setCell (p := ⟨w.heap.size + 2, 1, none⟩) (fun _ h => h.1 rfl) (.int .i64 q.2)
              refine ⟨trivial, rfl, (open_round _).calls ((less_any s.2 q _).mono ?_)⟩
              rintro e W4 ⟨rfl, hkM⟩
              rw [d2]
              clear p0 p1 p2 p3 m0 m1 m2 m3 g0 g1 gz0 gz1
              have L3 := L2.kept hkM trivial; have M3 := M2.kept hkM trivial; have G3 := G2.kept hkM trivial; have K3 := K2.trans hkM.all
              have lL := L3.lt
              have lM := M3.lt
              have lG := G3.lt
              have p0 := L3.at 0 rfl
              have p1 := L3.at 1 rfl
              have p2 := L3.frozen 0
              have p3 := L3.frozen 1
              have m0 := M3.at 0 rfl
              have m1 := M3.at 1 rfl
              have m2 := M3.frozen 0
              have m3 := M3.frozen 1
              have g0 := G3.at 0 rfl
              have g1 := G3.at 1 rfl
              have gz0 := G3.frozen 0
              have gz1 := G3.frozen 1
              gi_wp2_with fail
              have L4 := L3; have M4 := M3; have K4 := K3
              refine ⟨(hkW.all (S := fun k => (k < base ∨ k = w.heap.size + 4) ∨ w1.heap.size ≤ k)).trans (K4.mono fun k _ h => by omega), ?_⟩
              dsimp only
              rw [hstep]
              dsimp only
              rw [e1, e2]
              exact ⟨(h1.kept hkW trivial).kept K4 (by omega), (h2.kept hkW trivial).kept K4 (by omega), L4, M4, (h5.trans (hkW.mono fun k _ _ => trivial)).trans (K4.mono fun k _ h => by omega)⟩
        | false =>
          have e1 : betLo q s.1 = s.1 := by rw [betLo, if_neg c1, if_neg (by simp [c2])]
          clear c1
          by_cases d1 : s.2.2 = 0
          · have d1' : (s.2.2 == 0) = true := by simpa using d1
            have e2 : betHi q s.2 = q := by rw [betHi, if_pos d1]
            clear d1
            have K0 : Kept (fun k => k ≠ w.heap.size + 2 ∧ k ≠ w.heap.size + 3) W' W' := Kept.refl _ _
            gi_wp2_with fail
            refine ⟨trivial, rfl, (open_round _).calls ((less_any q s.1 _).mono ?_)⟩
            rintro e W2 ⟨rfl, hkL⟩
            rw [c2]
            clear p0 p1 p2 p3 m0 m1 m2 m3 g0 g1 gz0 gz1
            have L1 := l3.kept hkL trivial; have M1 := l4.kept hkL trivial; have G1 := hgB.kept hkL trivial; have K1 := K0.trans hkL.all
            have lL := L1.lt
            have lM := M1.lt
            have lG := G1.lt
            have p0 := L1.at 0 rfl
            have p1 := L1.at 1 rfl
            have p2 := L1.frozen 0
            have p3 := L1.frozen 1
            have m0 := M1.at 0 rfl
            have m1 := M1.at 1 rfl
            have m2 := M1.frozen 0
            have m3 := M1.frozen 1
            have g0 := G1.at 0 rfl
            have g1 := G1.at 1 rfl
            have gz0 := G1.frozen 0
            have gz1 := G1.frozen 1
            gi_wp2_with fail
            have L2 := L1; have M2 := M1; have G2 := G1; have K2 := K1
            refine ⟨trivial, ?_⟩
            have L3 := L2; have M3 := M2; have G3 := G2; have K3 := K2
            gi_wp2_with fail
            have L4 := (L3.far (p := ⟨w.heap.size + 3, 0, none⟩) (by simp) (.int .i64 q.1)).far (p := ⟨w.heap.size + 3, 1, none⟩) (by simp) (.int .i64 q.2)
            have M4 := (M3.set 0 (.int .i64 q.1)).set 1 (.int .i64 q.2)
            have K4 := (K3.setCell (p := ⟨w.heap.size + 3, 0, none⟩) (fun _ h => h.2 rfl) (.int .i64 q.1)).setCell (p := ⟨w.heap.size + 3, 1, none⟩) (fun _ h => h.2 rfl) (.int .i64 q.2)
            refine ⟨(hkW.all (S := fun k => (k < base ∨ k = w.heap.size + 4) ∨ w1.heap.size ≤ k)).trans (K4.mono fun k _ h => by omega), ?_⟩
            dsimp only
            rw [hstep]
            dsimp only
            rw [e1, e2]
            exact ⟨(h1.kept hkW trivial).kept K4 (by omega), (h2.kept hkW trivial).kept K4 (by omega), L4, M4, (h5.trans (hkW.mono fun k _ _ => trivial)).trans (K4.mono fun k _ h => by omega)⟩
          · have d1' : (s.2.2 == 0) = false := by simpa using d1
            cases d2 : lessI s.2 q with
            | true =>
              have e2 : betHi q s.2 = q := by rw [betHi, if_neg d1, if_pos d2]
              clear d1
              have K0 : Kept (fun k => k ≠ w.heap.size + 2 ∧ k ≠ w.heap.size + 3) W' W' := Kept.refl _ _
              gi_wp2_with fail
              refine ⟨trivial, rfl, (open_round _).calls ((less_any q s.1 _).mono ?_)⟩
              rintro e W2 ⟨rfl, hkL⟩
              rw [c2]
              clear p0 p1 p2 p3 m0 m1 m2 m3 g0 g1 gz0 gz1
              have L1 := l3.kept hkL trivial; have M1 := l4.kept hkL trivial; have G1 := hgB.kept hkL trivial; have K1 := K0.trans hkL.all
              have lL := L1.lt
              have lM := M1.lt
              have lG := G1.lt
              have p0 := L1.at 0 rfl
              have p1 := L1.at 1 rfl
              have p2 := L1.frozen 0
              have p3 := L1.frozen 1
              have m0 := M1.at 0 rfl
              have m1 := M1.at 1 rfl
              have m2 := M1.frozen 0
              have m3 := M1.frozen 1
              have g0 := G1.at 0 rfl
              have g1 := G1.at 1 rfl
              have gz0 := G1.frozen 0
              have gz1 := G1.frozen 1
              gi_wp2_with fail
              have L2 := L1; have M2 := M1; have G2 := G1; have K2 := K1
              refine ⟨trivial, rfl, (open_round _).calls ((less_any s.2 q _).mono ?_)⟩
              rintro e W4 ⟨rfl, hkM⟩
              rw [d2]
              clear p0 p1 p2 p3 m0 m1 m2 m3 g0 g1 gz0 gz1
              have L3 := L2.kept hkM trivial; have M3 := M2.kept hkM trivial; have G3 := G2.kept hkM trivial; have K3 := K2.trans hkM.all
              have lL := L3.lt
              have lM := M3.lt
              have lG := G3.lt
              have p0 := L3.at 0 rfl
              have p1 := L3.at 1 rfl
              have p2 := L3.frozen 0
              have p3 := L3.frozen 1
              have m0 := M3.at 0 rfl
              have m1 := M3.at 1 rfl
              have m2 := M3.frozen 0
              have m3 := M3.frozen 1
              have g0 := G3.at 0 rfl
              have g1 := G3.at 1 rfl
              have gz0 := G3.frozen 0
              have gz1 := G3.frozen 1
              gi_wp2_with fail
              have L4 := (L3.far (p := ⟨w.heap.size + 3, 0, none⟩) (by simp) (.int .i64 q.1)).far (p := ⟨w.heap.size + 3, 1, none⟩) (by simp) (.int .i64 q.2)
              have M4 := (M3.set 0 (.int .i64 q.1)).set 1 (.int .i64 q.2)
              have K4 := (K3.setCell (p := ⟨w.heap.size + 3, 0, none⟩) (fun _ h => h.2 rfl) (.int .i64 q.1)).setCell (p := ⟨w.heap.size + 3, 1, none⟩) (fun _ h => h.2 rfl) (.int .i64 q.2)
              refine ⟨(hkW.all (S := fun k => (k < base ∨ k = w.heap.size + 4) ∨ w1.heap.size ≤ k)).trans (K4.mono fun k _ h => by omega), ?_⟩
              dsimp only
              rw [hstep]
              dsimp only
              rw [e1, e2]
              exact ⟨(h1.kept hkW trivial).kept K4 (by omega), (h2.kept hkW trivial).kept K4 (by omega), L4, M4, (h5.trans (hkW.mono fun k _ _ => trivial)).trans (K4.mono fun k _ h => by omega)⟩
            | false =>
              have e2 : betHi q s.2 = s.2 := by rw [betHi, if_neg d1, if_neg (by simp [d2])]
              clear d1
              have K0 : Kept (fun k => k ≠ w.heap.size + 2 ∧ k ≠ w.heap.size + 3) W' W' := Kept.refl _ _
              gi_wp2_with fail
              refine ⟨trivial, rfl, (open_round _).calls ((less_any q s.1 _).mono ?_)⟩
              rintro e W2 ⟨rfl, hkL⟩
              rw [c2]
              clear p0 p1 p2 p3 m0 m1 m2 m3 g0 g1 gz0 gz1
              have L1 := l3.kept hkL trivial; have M1 := l4.kept hkL trivial; have G1 := hgB.kept hkL trivial; have K1 := K0.trans hkL.all
              have lL := L1.lt
              have lM := M1.lt
              have lG := G1.lt
              have p0 := L1.at 0 rfl
              have p1 := L1.at 1 rfl
              have p2 := L1.frozen 0
              have p3 := L1.frozen 1
              have m0 := M1.at 0 rfl
              have m1 := M1.at 1 rfl
              have m2 := M1.frozen 0
              have m3 := M1.frozen 1
              have g0 := G1.at 0 rfl
              have g1 := G1.at 1 rfl
              have gz0 := G1.frozen 0
              have gz1 := G1.frozen 1
              gi_wp2_with fail
              have L2 := L1; have M2 := M1; have G2 := G1; have K2 := K1
              refine ⟨trivial, rfl, (open_round _).calls ((less_any s.2 q _).mono ?_)⟩
              rintro e W4 ⟨rfl, hkM⟩
              rw [d2]
              clear p0 p1 p2 p3 m0 m1 m2 m3 g0 g1 gz0 gz1
              have L3 := L2.kept hkM trivial; have M3 := M2.kept hkM trivial; have G3 := G2.kept hkM trivial; have K3 := K2.trans hkM.all
              have lL := L3.lt
              have lM := M3.lt
              have lG := G3.lt
              have p0 := L3.at 0 rfl
              have p1 := L3.at 1 rfl
              have p2 := L3.frozen 0
              have p3 := L3.frozen 1
              have m0 := M3.at 0 rfl
              have m1 := M3.at 1 rfl
              have m2 := M3.frozen 0
              have m3 := M3.frozen 1
              have g0 := G3.at 0 rfl
              have g1 := G3.at 1 rfl
              have gz0 := G3.frozen 0
              have gz1 := G3.frozen 1
              gi_wp2_with fail
              have L4 := L3; have M4 := M3; have K4 := K3
              refine ⟨(hkW.all (S := fun k => (k < base ∨ k = w.heap.size + 4) ∨ w1.heap.size ≤ k)).trans (K4.mono fun k _ h => by omega), ?_⟩
              dsimp only
              rw [hstep]
              dsimp only
              rw [e1, e2]
              exact ⟨(h1.kept hkW trivial).kept K4 (by omega), (h2.kept hkW trivial).kept K4 (by omega), L4, M4, (h5.trans (hkW.mono fun k _ _ => trivial)).trans (K4.mono fun k _ h => by omega)⟩
    · go_simp
      have hke : ∀ o, Kept All X1 (X1.alloc o).drew := fun o => ((Kept.refl _ _).alloc o).drew
      refine hK.out _ _ ⟨(hke _).cell a0 trivial, (hke _).cell b0 trivial, (hke _).cell fa trivial, (hke _).cell fb trivial⟩ (fun hHeld2 => ?_)
      clear hK K hHeld
      simp only [Act.put, List.setIfInBounds_toArray, List.set_cons_zero, List.set_cons_succ]
      refine wpAnyH_ready (rs := [6]) (by kernel_rfl) (by simp) ?_
      refine AllReadyH.cons rfl (fun K hK => ?_) AllReadyH.nil
      go_simp
      refine (hlow _).mono ?_
      rintro e w' ⟨rfl, hkc⟩
      have hkc' : Kept All X1 w' := ((Kept.refl _ _).alloc _).drew.trans hkc
      have hgb := ((Blk.new X1 48 #[.int .i64 0, .int .i64 0]).drew).kept hkc trivial
      have g0 := hgb.at 0 rfl
      have g1 := hgb.at 1 rfl
      have z0 := hgb.frozen 0
      have z1 := hgb.frozen 1
      refine hK.out _ _ ⟨hkc'.cell a0 trivial, hkc'.cell b0 trivial, hkc'.cell fa trivial, hkc'.cell fb trivial⟩ (fun hHeld => ?_)
      clear hK K hHeld2
      simp only [Act.put, List.setIfInBounds_toArray, List.set_cons_zero, List.set_cons_succ]
      refine wpAnyH_ready (rs := [8]) (by kernel_rfl) (by simp) ?_
      refine AllReadyH.cons rfl (fun K hK => ?_) AllReadyH.nil
      go_simp
      have hks : ∀ u v, Kept All X1 ((w'.setCell ⟨X1.heap.size, 0, none⟩ u).setCell ⟨X1.heap.size, 1, none⟩ v) := fun u v => (hkc'.setNew (by simp) _).setNew (by simp) _
      refine hK.out _ _ ⟨(hks _ _).cell a0 trivial, (hks _ _).cell b0 trivial, (hks _ _).cell fa trivial, (hks _ _).cell fb trivial⟩ (fun hHeld2 => ?_)
      clear hK K hHeld
      refine wpAnyH_done (by kernel_rfl) ?_ _
      have hkW : Kept All X1 ((w'.setCell ⟨X1.heap.size, 0, none⟩ (.int .i64 q.1)).setCell ⟨X1.heap.size, 1, none⟩ (.int .i64 q.2)) := hks _ _
      have hgB : Blk ((w'.setCell ⟨X1.heap.size, 0, none⟩ (.int .i64 q.1)).setCell ⟨X1.heap.size, 1, none⟩ (.int .i64 q.2)) X1.heap.size 48 #[.int .i64 q.1, .int .i64 q.2] := (hgb.set 0 _).set 1 _
      generalize ((w'.setCell ⟨X1.heap.size, 0, none⟩ (.int .i64 q.1)).setCell ⟨X1.heap.size, 1, none⟩ (.int .i64 q.2)) = W' at hkW hgB ⊢
      clear hHeld2 hke hkc hkc' hgb g0 g1 z0 z1 hks w' a0 b0 fa fb hlow
      generalize hgg : X1.heap.size = g at hgB ⊢
      have hgX : X1.heap.size ≤ g := by omega
      clear hgg
      have hs3 := hkW.size
      have l3 := h3.kept hkW trivial
      have l4 := h4.kept hkW trivial
      have lg := hgB.lt
      have ll3 := l3.lt
      have ll4 := l4.lt
      have lX1 : X1.heap.size ≤ W'.heap.size := hs3
      have p0 := l3.at 0 rfl
      have p1 := l3.at 1 rfl
      have p2 := l3.frozen 0
      have p3 := l3.frozen 1
      have m0 := l4.at 0 rfl
      have m1 := l4.at 1 rfl
      have m2 := l4.frozen 0
      have m3 := l4.frozen 1
      have g0 := hgB.at 0 rfl
      have g1 := hgB.at 1 rfl
      have gz0 := hgB.frozen 0
      have gz1 := hgB.frozen 1
      by_cases c1 : s.1.2 = 0
      · have c1' : (s.1.2 == 0) = true := by simpa using c1
        have e1 : betLo q s.1 = q := by rw [betLo, if_pos c1]
        clear c1
        by_cases d1 : s.2.2 = 0
        · have d1' : (s.2.2 == 0) = true := by simpa using d1
          have e2 : betHi q s.2 = q := by rw [betHi, if_pos d1]
          clear d1
          have K0 : Kept (fun k => k ≠ w.heap.size + 2 ∧ k ≠ w.heap.size + 3) W' W' := Kept.refl _ _
          gi_wp2_with fail
          refine ⟨trivial, ?_⟩
          have L1 := l3; have M1 := l4; have G1 := hgB; have K1 := K0
          gi_wp2_with fail
          have L2 := (L1.set 0 (.int .i64 q.1)).set 1 (.int .i64 q.2)
          have M2 := (M1.far (p := ⟨w.heap.size + 2, 0, none⟩) (by simp) (.int .i64 q.1)).far (p := ⟨w.heap.size + 2, 1, none⟩) (by simp) (.int .i64 q.2)
          have G2 := (G1.far (p := ⟨w.heap.size + 2, 0, none⟩) (by simp; omega) (.int .i64 q.1)).far (p := ⟨w.heap.size + 2, 1, none⟩) (by simp; omega) (.int .i64 q.2)
          have K2 := (K1.setCell (p := ⟨w.heap.size + 2, 0, none⟩) (fun _ h => h.1 rfl) (.int .i64 q.1)).setCell (p := ⟨w.heap.size + 2, 1, none⟩) (fun _ h => h.1 rfl) (.int .i64 q.2)
          refine ⟨trivial, ?_⟩
          have L3 := L2; have M3 := M2; have G3 := G2; have K3 := K2
          gi_wp2_with fail
          have L4 := (L3.far (p := ⟨w.heap.size + 3, 0, none⟩) (by simp) (.int .i64 q.1)).far (p := ⟨w.heap.size + 3, 1, none⟩) (by simp) (.int .i64 q.2)
          have M4 := (M3.set 0 (.int .i64 q.1)).set 1 (.int .i64 q.2)
          have K4 := (K3.setCell (p := ⟨w.heap.size + 3, 0, none⟩) (fun _ h => h.2 rfl) (.int .i64 q.1)).setCell (p := ⟨w.heap.size + 3, 1, none⟩) (fun _ h => h.2 rfl) (.int .i64 q.2)
          refine ⟨(hkW.all (S := fun k => (k < base ∨ k = w.heap.size + 4) ∨ w1.heap.size ≤ k)).trans (K4.mono fun k _ h => by omega), ?_⟩
          dsimp only
          rw [hstep]
          dsimp only
          rw [e1, e2]
          exact ⟨(h1.kept hkW trivial).kept K4 (by omega), (h2.kept hkW trivial).kept K4 (by omega), L4, M4, (h5.trans (hkW.mono fun k _ _ => trivial)).trans (K4.mono fun k _ h => by omega)⟩
        · have d1' : (s.2.2 == 0) = false := by simpa using d1
          cases d2 : lessI s.2 q with
          | true =>
            have e2 : betHi q s.2 = q := by rw [betHi, if_neg d1, if_pos d2]
            clear d1
            have K0 : Kept (fun k => k ≠ w.heap.size + 2 ∧ k ≠ w.heap.size + 3) W' W' := Kept.refl _ _
            gi_wp2_with fail
            refine ⟨trivial, ?_⟩
            have L1 := l3; have M1 := l4; have G1 := hgB; have K1 := K0
            gi_wp2_with fail
            have L2 := (L1.set 0 (.int .i64 q.1)).set 1 (.int .i64 q.2)
            have M2 := (M1.far (p := ⟨w.heap.size + 2, 0, none⟩) (by simp) (.int .i64 q.1)).far (p := ⟨w.heap.size + 2, 1, none⟩) (by simp) (.int .i64 q.2)
            have G2 := (G1.far (p := ⟨w.heap.size + 2, 0, none⟩) (by simp; omega) (.int .i64 q.1)).far (p := ⟨w.heap.size + 2, 1, none⟩) (by simp; omega) (.int .i64 q.2)
            have K2 := (K1.setCell (p := ⟨w.heap.size + 2, 0, none⟩) (fun _ h => h.1 rfl) (.int .i64 q.1)).setCell (p := ⟨w.heap.size + 2, 1, none⟩) (fun _ h => h.1 rfl) (.int .i64 q.2)
            refine ⟨trivial, rfl, (open_round _).calls ((less_any s.2 q _).mono ?_)⟩
            rintro e W4 ⟨rfl, hkM⟩
            rw [d2]
            clear p0 p1 p2 p3 m0 m1 m2 m3 g0 g1 gz0 gz1
            have L3 := L2.kept hkM trivial; have M3 := M2.kept hkM trivial; have G3 := G2.kept hkM trivial; have K3 := K2.trans hkM.all
            have lL := L3.lt
            have lM := M3.lt
            have lG := G3.lt
            have p0 := L3.at 0 rfl
            have p1 := L3.at 1 rfl
            have p2 := L3.frozen 0
            have p3 := L3.frozen 1
            have m0 := M3.at 0 rfl
            have m1 := M3.at 1 rfl
            have m2 := M3.frozen 0
            have m3 := M3.frozen 1
            have g0 := G3.at 0 rfl
            have g1 := G3.at 1 rfl
            have gz0 := G3.frozen 0
            have gz1 := G3.frozen 1
            gi_wp2_with fail
            have L4 := (L3.far (p := ⟨w.heap.size + 3, 0, none⟩) (by simp) (.int .i64 q.1)).far (p := ⟨w.heap.size + 3, 1, none⟩) (by simp) (.int .i64 q.2)
            have M4 := (M3.set 0 (.int .i64 q.1)).set 1 (.int .i64 q.2)
            have K4 := (K3.setCell (p := ⟨w.heap.size + 3, 0, none⟩) (fun _ h => h.2 rfl) (.int .i64 q.1)).setCell (p := ⟨w.heap.size + 3, 1, none⟩) (fun _ h => h.2 rfl) (.int .i64 q.2)
            refine ⟨(hkW.all (S := fun k => (k < base ∨ k = w.heap.size + 4) ∨ w1.heap.size ≤ k)).trans (K4.mono fun k _ h => by omega), ?_⟩
            dsimp only
            rw [hstep]
            dsimp only
            rw [e1, e2]
            exact ⟨(h1.kept hkW trivial).kept K4 (by omega), (h2.kept hkW trivial).kept K4 (by omega), L4, M4, (h5.trans (hkW.mono fun k _ _ => trivial)).trans (K4.mono fun k _ h => by omega)⟩
          | false =>
            have e2 : betHi q s.2 = s.2 := by rw [betHi, if_neg d1, if_neg (by simp [d2])]
            clear d1
            have K0 : Kept (fun k => k ≠ w.heap.size + 2 ∧ k ≠ w.heap.size + 3) W' W' := Kept.refl _ _
            gi_wp2_with fail
            refine ⟨trivial, ?_⟩
            have L1 := l3; have M1 := l4; have G1 := hgB; have K1 := K0
            gi_wp2_with fail
            have L2 := (L1.set 0 (.int .i64 q.1)).set 1 (.int .i64 q.2)
            have M2 := (M1.far (p := ⟨w.heap.size + 2, 0, none⟩) (by simp) (.int .i64 q.1)).far (p := ⟨w.heap.size + 2, 1, none⟩) (by simp) (.int .i64 q.2)
            have G2 := (G1.far (p := ⟨w.heap.size + 2, 0, none⟩) (by simp; omega) (.int .i64 q.1)).far (p := ⟨w.heap.size + 2, 1, none⟩) (by simp; omega) (.int .i64 q.2)
            have K2 := (K1.setCell (p := ⟨w.heap.size + 2, 0, none⟩) (fun _ h => h.1 rfl) (.int .i64 q.1)).setCell (p := ⟨w.heap.size + 2, 1, none⟩) (fun _ h => h.1 rfl) (.int .i64 q.2)
            refine ⟨trivial, rfl, (open_round _).calls ((less_any s.2 q _).mono ?_)⟩
            rintro e W4 ⟨rfl, hkM⟩
            rw [d2]
            clear p0 p1 p2 p3 m0 m1 m2 m3 g0 g1 gz0 gz1
            have L3 := L2.kept hkM trivial; have M3 := M2.kept hkM trivial; have G3 := G2.kept hkM trivial; have K3 := K2.trans hkM.all
            have lL := L3.lt
            have lM := M3.lt
            have lG := G3.lt
            have p0 := L3.at 0 rfl
            have p1 := L3.at 1 rfl
            have p2 := L3.frozen 0
            have p3 := L3.frozen 1
            have m0 := M3.at 0 rfl
            have m1 := M3.at 1 rfl
            have m2 := M3.frozen 0
            have m3 := M3.frozen 1
            have g0 := G3.at 0 rfl
            have g1 := G3.at 1 rfl
            have gz0 := G3.frozen 0
            have gz1 := G3.frozen 1
            gi_wp2_with fail
            have L4 := L3; have M4 := M3; have K4 := K3
            refine ⟨(hkW.all (S := fun k => (k < base ∨ k = w.heap.size + 4) ∨ w1.heap.size ≤ k)).trans (K4.mono fun k _ h => by omega), ?_⟩
            dsimp only
            rw [hstep]
            dsimp only
            rw [e1, e2]
            exact ⟨(h1.kept hkW trivial).kept K4 (by omega), (h2.kept hkW trivial).kept K4 (by omega), L4, M4, (h5.trans (hkW.mono fun k _ _ => trivial)).trans (K4.mono fun k _ h => by omega)⟩
      · have c1' : (s.1.2 == 0) = false := by simpa using c1
        cases c2 : lessI q s.1 with
        | true =>
          have e1 : betLo q s.1 = q := by rw [betLo, if_neg c1, if_pos c2]
          clear c1
          by_cases d1 : s.2.2 = 0
          · have d1' : (s.2.2 == 0) = true := by simpa using d1
            have e2 : betHi q s.2 = q := by rw [betHi, if_pos d1]
            clear d1
            have K0 : Kept (fun k => k ≠ w.heap.size + 2 ∧ k ≠ w.heap.size + 3) W' W' := Kept.refl _ _
            gi_wp2_with fail
            refine ⟨trivial, rfl, (open_round _).calls ((less_any q s.1 _).mono ?_)⟩
            rintro e W2 ⟨rfl, hkL⟩
            rw [c2]
            clear p0 p1 p2 p3 m0 m1 m2 m3 g0 g1 gz0 gz1
            have L1 := l3.kept hkL trivial; have M1 := l4.kept hkL trivial; have G1 := hgB.kept hkL trivial; have K1 := K0.trans hkL.all
            have lL := L1.lt
            have lM := M1.lt
            have lG := G1.lt
            have p0 := L1.at 0 rfl
            have p1 := L1.at 1 rfl
            have p2 := L1.frozen 0
            have p3 := L1.frozen 1
            have m0 := M1.at 0 rfl
            have m1 := M1.at 1 rfl
            have m2 := M1.frozen 0
            have m3 := M1.frozen 1
            have g0 := G1.at 0 rfl
            have g1 := G1.at 1 rfl
            have gz0 := G1.frozen 0
            have gz1 := G1.frozen 1
            gi_wp2_with fail
            have L2 := (L1.set 0 (.int .i64 q.1)).set 1 (.int .i64 q.2)
            have M2 := (M1.far (p := ⟨w.heap.size + 2, 0, none⟩) (by simp) (.int .i64 q.1)).far (p := ⟨w.heap.size + 2, 1, none⟩) (by simp) (.int .i64 q.2)
            have G2 := (G1.far (p := ⟨w.heap.size + 2, 0, none⟩) (by simp; omega) (.int .i64 q.1)).far (p := ⟨w.heap.size + 2, 1, none⟩) (by simp; omega) (.int .i64 q.2)
            have K2 := (K1.setCell (p := ⟨w.heap.size + 2, 0, none⟩) (fun _ h => h.1 rfl) (.int .i64 q.1)).setCell (p := ⟨w.heap.size + 2, 1, none⟩) (fun _ h => h.1 rfl) (.int .i64 q.2)
            refine ⟨trivial, ?_⟩
            have L3 := L2; have M3 := M2; have G3 := G2; have K3 := K2
            gi_wp2_with fail
            have L4 := (L3.far (p := ⟨w.heap.size + 3, 0, none⟩) (by simp) (.int .i64 q.1)).far (p := ⟨w.heap.size + 3, 1, none⟩) (by simp) (.int .i64 q.2)
            have M4 := (M3.set 0 (.int .i64 q.1)).set 1 (.int .i64 q.2)
            have K4 := (K3.setCell (p := ⟨w.heap.size + 3, 0, none⟩) (fun _ h => h.2 rfl) (.int .i64 q.1)).setCell (p := ⟨w.heap.size + 3, 1, none⟩) (fun _ h => h.2 rfl) (.int .i64 q.2)
            refine ⟨(hkW.all (S := fun k => (k < base ∨ k = w.heap.size + 4) ∨ w1.heap.size ≤ k)).trans (K4.mono fun k _ h => by omega), ?_⟩
            dsimp only
            rw [hstep]
            dsimp only
            rw [e1, e2]
            exact ⟨(h1.kept hkW trivial).kept K4 (by omega), (h2.kept hkW trivial).kept K4 (by omega), L4, M4, (h5.trans (hkW.mono fun k _ _ => trivial)).trans (K4.mono fun k _ h => by omega)⟩
          · have d1' : (s.2.2 == 0) = false := by simpa using d1
            cases d2 : lessI s.2 q with
            | true =>
              have e2 : betHi q s.2 = q := by rw [betHi, if_neg d1, if_pos d2]
              clear d1
              have K0 : Kept (fun k => k ≠ w.heap.size + 2 ∧ k ≠ w.heap.size + 3) W' W' := Kept.refl _ _
              gi_wp2_with fail
              refine ⟨trivial, rfl, (open_round _).calls ((less_any q s.1 _).mono ?_)⟩
              rintro e W2 ⟨rfl, hkL⟩
              rw [c2]
              clear p0 p1 p2 p3 m0 m1 m2 m3 g0 g1 gz0 gz1
              have L1 := l3.kept hkL trivial; have M1 := l4.kept hkL trivial; have G1 := hgB.kept hkL trivial; have K1 := K0.trans hkL.all
              have lL := L1.lt
              have lM := M1.lt
              have lG := G1.lt
              have p0 := L1.at 0 rfl
              have p1 := L1.at 1 rfl
              have p2 := L1.frozen 0
              have p3 := L1.frozen 1
              have m0 := M1.at 0 rfl
              have m1 := M1.at 1 rfl
              have m2 := M1.frozen 0
              have m3 := M1.frozen 1
              have g0 := G1.at 0 rfl
              have g1 := G1.at 1 rfl
              have gz0 := G1.frozen 0
              have gz1 := G1.frozen 1
              gi_wp2_with fail
              have L2 := (L1.set 0 (.int .i64 q.1)).set 1 (.int .i64 q.2)
              have M2 := (M1.far (p := ⟨w.heap.size + 2, 0, none⟩) (by simp) (.int .i64 q.1)).far (p := ⟨w.heap.size + 2, 1, none⟩) (by simp) (.int .i64 q.2)
              have G2 := (G1.far (p := ⟨w.heap.size + 2, 0, none⟩) (by simp; omega) (.int .i64 q.1)).far (p := ⟨w.heap.size + 2, 1, none⟩) (by simp; omega) (.int .i64 q.2)
              have K2 := (K1.setCell (p := ⟨w.heap.size + 2, 0, none⟩) (fun _ h => h.1 rfl) (.int .i64 q.1)).setCell (p := ⟨w.heap.size + 2, 1, none⟩) (fun _ h => h.1 rfl) (.int .i64 q.2)
              refine ⟨trivial, rfl, (open_round _).calls ((less_any s.2 q _).mono ?_)⟩
              rintro e W4 ⟨rfl, hkM⟩
              rw [d2]
              clear p0 p1 p2 p3 m0 m1 m2 m3 g0 g1 gz0 gz1
              have L3 := L2.kept hkM trivial; have M3 := M2.kept hkM trivial; have G3 := G2.kept hkM trivial; have K3 := K2.trans hkM.all
              have lL := L3.lt
              have lM := M3.lt
              have lG := G3.lt
              have p0 := L3.at 0 rfl
              have p1 := L3.at 1 rfl
              have p2 := L3.frozen 0
              have p3 := L3.frozen 1
              have m0 := M3.at 0 rfl
              have m1 := M3.at 1 rfl
              have m2 := M3.frozen 0
              have m3 := M3.frozen 1
              have g0 := G3.at 0 rfl
              have g1 := G3.at 1 rfl
              have gz0 := G3.frozen 0
              have gz1 := G3.frozen 1
              gi_wp2_with fail
              have L4 := (L3.far (p := ⟨w.heap.size + 3, 0, none⟩) (by simp) (.int .i64 q.1)).far (p := ⟨w.heap.size + 3, 1, none⟩) (by simp) (.int .i64 q.2)
              have M4 := (M3.set 0 (.int .i64 q.1)).set 1 (.int .i64 q.2)
              have K4 := (K3.setCell (p := ⟨w.heap.size + 3, 0, none⟩) (fun _ h => h.2 rfl) (.int .i64 q.1)).setCell (p := ⟨w.heap.size + 3, 1, none⟩) (fun _ h => h.2 rfl) (.int .i64 q.2)
              refine ⟨(hkW.all (S := fun k => (k < base ∨ k = w.heap.size + 4) ∨ w1.heap.size ≤ k)).trans (K4.mono fun k _ h => by omega), ?_⟩
              dsimp only
              rw [hstep]
              dsimp only
              rw [e1, e2]
              exact ⟨(h1.kept hkW trivial).kept K4 (by omega), (h2.kept hkW trivial).kept K4 (by omega), L4, M4, (h5.trans (hkW.mono fun k _ _ => trivial)).trans (K4.mono fun k _ h => by omega)⟩
            | false =>
              have e2 : betHi q s.2 = s.2 := by rw [betHi, if_neg d1, if_neg (by simp [d2])]
              clear d1
              have K0 : Kept (fun k => k ≠ w.heap.size + 2 ∧ k ≠ w.heap.size + 3) W' W' := Kept.refl _ _
              gi_wp2_with fail
              refine ⟨trivial, rfl, (open_round _).calls ((less_any q s.1 _).mono ?_)⟩
              rintro e W2 ⟨rfl, hkL⟩
              rw [c2]
              clear p0 p1 p2 p3 m0 m1 m2 m3 g0 g1 gz0 gz1
              have L1 := l3.kept hkL trivial; have M1 := l4.kept hkL trivial; have G1 := hgB.kept hkL trivial; have K1 := K0.trans hkL.all
              have lL := L1.lt
              have lM := M1.lt
              have lG := G1.lt
              have p0 := L1.at 0 rfl
              have p1 := L1.at 1 rfl
              have p2 := L1.frozen 0
              have p3 := L1.frozen 1
              have m0 := M1.at 0 rfl
              have m1 := M1.at 1 rfl
              have m2 := M1.frozen 0
              have m3 := M1.frozen 1
              have g0 := G1.at 0 rfl
              have g1 := G1.at 1 rfl
              have gz0 := G1.frozen 0
              have gz1 := G1.frozen 1
              gi_wp2_with fail
              have L2 := (L1.set 0 (.int .i64 q.1)).set 1 (.int .i64 q.2)
              have M2 := (M1.far (p := ⟨w.heap.size + 2, 0, none⟩) (by simp) (.int .i64 q.1)).far (p := ⟨w.heap.size + 2, 1, none⟩) (by simp) (.int .i64 q.2)
              have G2 := (G1.far (p := ⟨w.heap.size + 2, 0, none⟩) (by simp; omega) (.int .i64 q.1)).far (p := ⟨w.heap.size + 2, 1, none⟩) (by simp; omega) (.int .i64 q.2)
              have K2 := (K1.setCell (p := ⟨w.heap.size + 2, 0, none⟩) (fun _ h => h.1 rfl) (.int .i64 q.1)).setCell (p := ⟨w.heap.size + 2, 1, none⟩) (fun _ h => h.1 rfl) (.int .i64 q.2)
              refine ⟨trivial, rfl, (open_round _).calls ((less_any s.2 q _).mono ?_)⟩
              rintro e W4 ⟨rfl, hkM⟩
              rw [d2]
              clear p0 p1 p2 p3 m0 m1 m2 m3 g0 g1 gz0 gz1
              have L3 := L2.kept hkM trivial; have M3 := M2.kept hkM trivial; have G3 := G2.kept hkM trivial; have K3 := K2.trans hkM.all
              have lL := L3.lt
              have lM := M3.lt
              have lG := G3.lt
              have p0 := L3.at 0 rfl
              have p1 := L3.at 1 rfl
              have p2 := L3.frozen 0
              have p3 := L3.frozen 1
              have m0 := M3.at 0 rfl
              have m1 := M3.at 1 rfl
              have m2 := M3.frozen 0
              have m3 := M3.frozen 1
              have g0 := G3.at 0 rfl
              have g1 := G3.at 1 rfl
              have gz0 := G3.frozen 0
              have gz1 := G3.frozen 1
              gi_wp2_with fail
              have L4 := L3; have M4 := M3; have K4 := K3
              refine ⟨(hkW.all (S := fun k => (k < base ∨ k = w.heap.size + 4) ∨ w1.heap.size ≤ k)).trans (K4.mono fun k _ h => by omega), ?_⟩
              dsimp only
              rw [hstep]
              dsimp only
              rw [e1, e2]
              exact ⟨(h1.kept hkW trivial).kept K4 (by omega), (h2.kept hkW trivial).kept K4 (by omega), L4, M4, (h5.trans (hkW.mono fun k _ _ => trivial)).trans (K4.mono fun k _ h => by omega)⟩
        | false =>
          have e1 : betLo q s.1 = s.1 := by rw [betLo, if_neg c1, if_neg (by simp [c2])]
          clear c1
          by_cases d1 : s.2.2 = 0
          · have d1' : (s.2.2 == 0) = true := by simpa using d1
            have e2 : betHi q s.2 = q := by rw [betHi, if_pos d1]
            clear d1
            have K0 : Kept (fun k => k ≠ w.heap.size + 2 ∧ k ≠ w.heap.size + 3) W' W' := Kept.refl _ _
            gi_wp2_with fail
            refine ⟨trivial, rfl, (open_round _).calls ((less_any q s.1 _).mono ?_)⟩
            rintro e W2 ⟨rfl, hkL⟩
            rw [c2]
            clear p0 p1 p2 p3 m0 m1 m2 m3 g0 g1 gz0 gz1
            have L1 := l3.kept hkL trivial; have M1 := l4.kept hkL trivial; have G1 := hgB.kept hkL trivial; have K1 := K0.trans hkL.all
            have lL := L1.lt
            have lM := M1.lt
            have lG := G1.lt
            have p0 := L1.at 0 rfl
            have p1 := L1.at 1 rfl
            have p2 := L1.frozen 0
            have p3 := L1.frozen 1
            have m0 := M1.at 0 rfl
            have m1 := M1.at 1 rfl
            have m2 := M1.frozen 0
            have m3 := M1.frozen 1
            have g0 := G1.at 0 rfl
            have g1 := G1.at 1 rfl
            have gz0 := G1.frozen 0
            have gz1 := G1.frozen 1
            gi_wp2_with fail
            have L2 := L1; have M2 := M1; have G2 := G1; have K2 := K1
            refine ⟨trivial, ?_⟩
            have L3 := L2; have M3 := M2; have G3 := G2; have K3 := K2
            gi_wp2_with fail
            have L4 := (L3.far (p := ⟨w.heap.size + 3, 0, none⟩) (by simp) (.int .i64 q.1)).far (p := ⟨w.heap.size + 3, 1, none⟩) (by simp) (.int .i64 q.2)
            have M4 := (M3.set 0 (.int .i64 q.1)).set 1 (.int .i64 q.2)
            have K4 := (K3.setCell (p := ⟨w.heap.size + 3, 0, none⟩) (fun _ h => h.2 rfl) (.int .i64 q.1)).setCell (p := ⟨w.heap.size + 3, 1, none⟩) (fun _ h => h.2 rfl) (.int .i64 q.2)
            refine ⟨(hkW.all (S := fun k => (k < base ∨ k = w.heap.size + 4) ∨ w1.heap.size ≤ k)).trans (K4.mono fun k _ h => by omega), ?_⟩
            dsimp only
            rw [hstep]
            dsimp only
            rw [e1, e2]
            exact ⟨(h1.kept hkW trivial).kept K4 (by omega), (h2.kept hkW trivial).kept K4 (by omega), L4, M4, (h5.trans (hkW.mono fun k _ _ => trivial)).trans (K4.mono fun k _ h => by omega)⟩
          · have d1' : (s.2.2 == 0) = false := by simpa using d1
            cases d2 : lessI s.2 q with
            | true =>
              have e2 : betHi q s.2 = q := by rw [betHi, if_neg d1, if_pos d2]
              clear d1
              have K0 : Kept (fun k => k ≠ w.heap.size + 2 ∧ k ≠ w.heap.size + 3) W' W' := Kept.refl _ _
              gi_wp2_with fail
              refine ⟨trivial, rfl, (open_round _).calls ((less_any q s.1 _).mono ?_)⟩
              rintro e W2 ⟨rfl, hkL⟩
              rw [c2]
              clear p0 p1 p2 p3 m0 m1 m2 m3 g0 g1 gz0 gz1
              have L1 := l3.kept hkL trivial; have M1 := l4.kept hkL trivial; have G1 := hgB.kept hkL trivial; have K1 := K0.trans hkL.all
              have lL := L1.lt
              have lM := M1.lt
              have lG := G1.lt
              have p0 := L1.at 0 rfl
              have p1 := L1.at 1 rfl
              have p2 := L1.frozen 0
              have p3 := L1.frozen 1
              have m0 := M1.at 0 rfl
              have m1 := M1.at 1 rfl
              have m2 := M1.frozen 0
              have m3 := M1.frozen 1
              have g0 := G1.at 0 rfl
              have g1 := G1.at 1 rfl
              have gz0 := G1.frozen 0
              have gz1 := G1.frozen 1
              gi_wp2_with fail
              have L2 := L1; have M2 := M1; have G2 := G1; have K2 := K1
              refine ⟨trivial, rfl, (open_round _).calls ((less_any s.2 q _).mono ?_)⟩
              rintro e W4 ⟨rfl, hkM⟩
              rw [d2]
              clear p0 p1 p2 p3 m0 m1 m2 m3 g0 g1 gz0 gz1
              have L3 := L2.kept hkM trivial; have M3 := M2.kept hkM trivial; have G3 := G2.kept hkM trivial; have K3 := K2.trans hkM.all
              have lL := L3.lt
              have lM := M3.lt
              have lG := G3.lt
              have p0 := L3.at 0 rfl
              have p1 := L3.at 1 rfl
              have p2 := L3.frozen 0
              have p3 := L3.frozen 1
              have m0 := M3.at 0 rfl
              have m1 := M3.at 1 rfl
              have m2 := M3.frozen 0
              have m3 := M3.frozen 1
              have g0 := G3.at 0 rfl
              have g1 := G3.at 1 rfl
              have gz0 := G3.frozen 0
              have gz1 := G3.frozen 1
              gi_wp2_with fail
              have L4 := (L3.far (p := ⟨w.heap.size + 3, 0, none⟩) (by simp) (.int .i64 q.1)).far (p := ⟨w.heap.size + 3, 1, none⟩) (by simp) (.int .i64 q.2)
              have M4 := (M3.set 0 (.int .i64 q.1)).set 1 (.int .i64 q.2)
              have K4 := (K3.setCell (p := ⟨w.heap.size + 3, 0, none⟩) (fun _ h => h.2 rfl) (.int .i64 q.1)).setCell (p := ⟨w.heap.size + 3, 1, none⟩) (fun _ h => h.2 rfl) (.int .i64 q.2)
              refine ⟨(hkW.all (S := fun k => (k < base ∨ k = w.heap.size + 4) ∨ w1.heap.size ≤ k)).trans (K4.mono fun k _ h => by omega), ?_⟩
              dsimp only
              rw [hstep]
              dsimp only
              rw [e1, e2]
              exact ⟨(h1.kept hkW trivial).kept K4 (by omega), (h2.kept hkW trivial).kept K4 (by omega), L4, M4, (h5.trans (hkW.mono fun k _ _ => trivial)).trans (K4.mono fun k _ h => by omega)⟩
            | false =>
              have e2 : betHi q s.2 = s.2 := by rw [betHi, if_neg d1, if_neg (by simp [d2])]
              clear d1
              have K0 : Kept (fun k => k ≠ w.heap.size + 2 ∧ k ≠ w.heap.size + 3) W' W' := Kept.refl _ _
              gi_wp2_with fail
              refine ⟨trivial, rfl, (open_round _).calls ((less_any q s.1 _).mono ?_)⟩
              rintro e W2 ⟨rfl, hkL⟩
              rw [c2]
              clear p0 p1 p2 p3 m0 m1 m2 m3 g0 g1 gz0 gz1
              have L1 := l3.kept hkL trivial; have M1 := l4.kept hkL trivial; have G1 := hgB.kept hkL trivial; have K1 := K0.trans hkL.all
              have lL := L1.lt
              have lM := M1.lt
              have lG := G1.lt
              have p0 := L1.at 0 rfl
              have p1 := L1.at 1 rfl
              have p2 := L1.frozen 0
              have p3 := L1.frozen 1
              have m0 := M1.at 0 rfl
              have m1 := M1.at 1 rfl
              have m2 := M1.frozen 0
              have m3 := M1.frozen 1
              have g0 := G1.at 0 rfl
              have g1 := G1.at 1 rfl
              have gz0 := G1.frozen 0
              have gz1 := G1.frozen 1
              gi_wp2_with fail
              have L2 := L1; have M2 := M1; have G2 := G1; have K2 := K1
              refine ⟨trivial, rfl, (open_round _).calls ((less_any s.2 q _).mono ?_)⟩
              rintro e W4 ⟨rfl, hkM⟩
              rw [d2]
              clear p0 p1 p2 p3 m0 m1 m2 m3 g0 g1 gz0 gz1
              have L3 := L2.kept hkM trivial; have M3 := M2.kept hkM trivial; have G3 := G2.kept hkM trivial; have K3 := K2.trans hkM.all
              have lL := L3.lt
              have lM := M3.lt
              have lG := G3.lt
              have p0 := L3.at 0 rfl
              have p1 := L3.at 1 rfl
              have p2 := L3.frozen 0
              have p3 := L3.frozen 1
              have m0 := M3.at 0 rfl
              have m1 := M3.at 1 rfl
              have m2 := M3.frozen 0
              have m3 := M3.frozen 1
              have g0 := G3.at 0 rfl
              have g1 := G3.at 1 rfl
              have gz0 := G3.frozen 0
              have gz1 := G3.frozen 1
              gi_wp2_with fail
              have L4 := L3; have M4 := M3; have K4 := K3
              refine ⟨(hkW.all (S := fun k => (k < base ∨ k = w.heap.size + 4) ∨ w1.heap.size ≤ k)).trans (K4.mono fun k _ h => by omega), ?_⟩
              dsimp only
              rw [hstep]
              dsimp only
              rw [e1, e2]
              exact ⟨(h1.kept hkW trivial).kept K4 (by omega), (h2.kept hkW trivial).kept K4 (by omega), L4, M4, (h5.trans (hkW.mono fun k _ _ => trivial)).trans (K4.mono fun k _ h => by omega)⟩
  case done =>
    rintro W hW how ⟨h1, h2, h3, h4, h5⟩ hD
    obtain ⟨s, hs⟩ : ∃ s, betL a b (truths h 0) = s := ⟨_, rfl⟩
    rw [hs] at h3 h4
    have HS := Lib.hid hs
    clear hs
    have ll3 := h3.lt
    have ll4 := h4.lt
    have p0 := h3.at 0 rfl
    have p1 := h3.at 1 rfl
    have p2 := h3.frozen 0
    have p3 := h3.frozen 1
    have m0 := h4.at 0 rfl
    have m1 := h4.at 1 rfl
    have m2 := h4.frozen 0
    have m3 := h4.frozen 1
    gi_wp2_with fail
    refine (wpIn_wide (n := 0)).2 ?_
    go_region
    all_goals gi_wp2_with fail
    have L4 := (((((h3.set 0 (.int .i64 s.1.1)).set 1 (.int .i64 s.1.2)).far (p := ⟨w.heap.size + 3, 0, none⟩) (by simp) (.int .i64 s.2.1)).far (p := ⟨w.heap.size + 3, 1, none⟩) (by simp) (.int .i64 s.2.2))).drew
    have M4 := ((((h4.far (p := ⟨w.heap.size + 2, 0, none⟩) (by simp) (.int .i64 s.1.1)).far (p := ⟨w.heap.size + 2, 1, none⟩) (by simp) (.int .i64 s.1.2)).set 0 (.int .i64 s.2.1)).set 1 (.int .i64 s.2.2)).drew
    have hk4 : Kept (fun k => k ≠ w.heap.size + 2 ∧ k ≠ w.heap.size + 3) W (((((W.setCell ⟨w.heap.size + 2, 0, none⟩ (.int .i64 s.1.1)).setCell ⟨w.heap.size + 2, 1, none⟩ (.int .i64 s.1.2)).setCell ⟨w.heap.size + 3, 0, none⟩ (.int .i64 s.2.1)).setCell ⟨w.heap.size + 3, 1, none⟩ (.int .i64 s.2.2)).drew) :=
      (((((Kept.refl _ _).setCell (fun _ h => h.1 rfl) _).setCell (fun _ h => h.1 rfl) _).setCell (fun _ h => h.2 rfl) _).setCell (fun _ h => h.2 rfl) _).drew
    refine leaves_one (hk4.heap hD (by omega)) (fun w' hk => ?_)
    have L5 := L4.kept hk (by omega)
    have M5 := M4.kept hk (by omega)
    have q0 := L5.at 0 rfl
    have q1 := L5.at 1 rfl
    have q2 := M5.at 0 rfl
    have q3 := M5.at 1 rfl
    rw [HS.out]
    refine ⟨.tuple #[sV s.1, sV s.2], by simp [results, Try.results45, go_sem, q0, q1, q2, q3], rfl, ?_, ?_⟩
    · exact (h5.trans (hk4.mono fun k _ h => by omega)).trans (hk.mono fun k _ h => by omega)
    · exact (how.kept (hk4.mono (T := fun k => k = km) fun k _ h => by omega) rfl).kept (hk.mono (T := fun k => k = km) fun k _ h => by omega) rfl
  case stop =>
    rintro c pre W hW how hpre h hD
    exact h.elim
end
end Go.Proofs.Ytiajiahfmfckjaa
