/- The walks of package factor's Number. -/
import Derived.Test.YtiajiahfmfckjaaC11
namespace Go.Proofs.Ytiajiahfmfckjaa
open Go.RowKit Go.Shelf
attribute [local go_sem] Oper.semAt_some
set_option maxRecDepth 10000

def numE (h : House) (x : Int) : Int := entErr h (ix [x, (h.days.length : Int)]) 1 0
def numR (h : House) (x : Int) : Int × Int := if numE h x = 0 then wideL ((truths h 0).map fun t => t.2.get x.toNat) else (0, 0)
section
variable {base hb km : Nat} {h : House} {A : Option Addr} {c : Nat} {D : Option Addr} {d bh bw : Nat} {w : World}
theorem number_iter (hv : Valid h) (hp : HP base w hb km h 0 A c D d) (hbase : base ≤ w.heap.size) (hh : Blk w bh 74 #[ptr hb]) (x : Nat) (hx : x < h.days.length) (hw : Blk w bw 3 #[.int .i64 x]) :
    Iter Try.prog 42 #[ptr bh, ptr bw] encS ((truths h 0).map fun t => t.2.get x) (fun k => k = km) (fun k => k < base ∨ k = bh ∨ k = bw) (fun B => Cache B km enc3 (GoodN h 0)) w := by
  intro l J Jx W hkW hJ hJx hY h0
  refine (callsIn_wide (n := 0)).1 (callsIn_of_wp_marks Try.func42 rfl trivial ?_)
  simp only [Try.ntmps42, List.size_toArray, List.length_cons, List.length_nil, Nat.reduceAdd, Nat.reduceSub, Array.replicate_succ, Array.replicate_zero, List.push_toArray, List.append_toArray, List.nil_append, List.cons_append]
  have hnd := hv.nd
  have hh0 := (hh.kept hkW trivial).at 0 rfl
  have lh := (hh.kept hkW trivial).lt
  gi_wp2_with fail
  refine ⟨trivial, rfl, open_wide.calls ((truths_any _ _).mono ?_)⟩
  rintro e w1 ⟨rfl, rfl⟩
  gi_wp2_with fail
  obtain ⟨w2, hw2⟩ : ∃ w2, (W.alloc (.cells #[.func (.yield l) #[] #[]] 79)).alloc (.cells #[ptr hb] 74) = w2 := ⟨_, rfl⟩
  have hk2 : Kept All W w2 := by rw [← hw2]; exact ((Kept.refl _ _).alloc _).alloc _
  have hy2 : Blk w2 W.heap.size 79 #[.func (.yield l) #[] #[]] := by rw [← hw2]; exact (Blk.new _ _ _).alloc _
  have hs2 : Blk w2 (W.heap.size + 1) 74 #[ptr hb] := by rw [← hw2]; exact Blk.new' _ _ (by simp)
  have hz2 : w2.heap.size = W.heap.size + 2 := by rw [← hw2]; simp
  rw [hw2]
  clear hw2 hh0
  have hp2 := hp.kept (hkW.trans hk2) (fun _ _ => trivial)
  have hb2 := (hw.kept hkW trivial).kept hk2 trivial
  have lw := (hw.kept hkW trivial).lt
  have hklt := hp.klt
  have hWs := hkW.size
  have hnk : bw ≠ km := fun e => by
    obtain ⟨es, ck, hh', _⟩ := hp2.cache
    subst e; unfold Blk at hb2; rw [hh'] at hb2; cases hb2
  refine wp_range (gf := 70) (caps := #[ptr (W.heap.size + 1)]) rfl (enters_of Try.func70 (by kernel_rfl) rfl) (truths_iter hv hp2 hs2 (by omega))
    (fun A B hc hk => hc.kept hk rfl) (fun _ => rfl) (fun k hk => by omega) (fun k hk => by omega)
    (fun pre A => W.heap.size ≤ A.heap.size ∧ J (pre.map fun t => t.2.get x) A ∧ Blk A W.heap.size 79 #[.func (.yield l) #[] #[]] ∧ Blk A bw 3 #[.int .i64 x])
    (fun c pre A => c = .ret ∧ W.heap.size ≤ A.heap.size ∧ Jx (pre.map fun t => t.2.get x) A)
    ?_ ?_ ⟨hk2.size, hJ _ _ _ h0 (Nat.le_refl _) hk2.all, hy2, hb2⟩ ?round ?done ?stop
  · rintro pre A B ⟨h0, h1, h2, h3⟩ hA hk
    exact ⟨Nat.le_trans h0 hk.size, hJ _ _ _ h1 h0 (hk.mono fun k _ h => ⟨by omega, h.2⟩), h2.kept hk ⟨by omega, by omega⟩, h3.kept hk ⟨by omega, hnk⟩⟩
  · rintro c pre A B ⟨h0, h1, h2⟩ hA hk
    exact ⟨h0, Nat.le_trans h1 hk.size, hJx _ _ _ h2 h1 (hk.mono fun k _ h => ⟨by omega, h.2⟩)⟩
  case round =>
    rintro l' pre y A hl hA hr hi hy
    obtain ⟨rr, hrr⟩ := hr
    have hlA := lt_of_heap hrr
    gi_wp2
    refine ⟨(Kept.refl _ _).alloc _, ?_⟩
    rintro A1 hk ⟨h0, h1, h2, h3⟩
    have hfb := (Blk.new A 87 (nC y.2)).kept hk (by omega)
    have lfb := hfb.lt
    have y0 := h2.at 0 rfl
    have x0 := h3.at 0 rfl
    have fx0 : A1.cell? ⟨A.heap.size, x * 2, none⟩ = some (.int .i64 (y.2.get x).1) := by
      have : x = 0 ∨ x = 1 ∨ x = 2 ∨ x = 3 := by omega
      rcases this with e | e | e | e <;> (rw [e]; exact hfb.at _ rfl)
    have fx1 : A1.cell? ⟨A.heap.size, x * 2 + 1, none⟩ = some (.int .i64 (y.2.get x).2) := by
      have : x = 0 ∨ x = 1 ∨ x = 2 ∨ x = 3 := by omega
      rcases this with e | e | e | e <;> (rw [e]; exact hfb.at _ rfl)
    have hx3 : (x : Int) < 4 := by omega
    have hx3n : x < 4 := by omega
    gi_wp2_with fail
    refine wpIn_tail (open_round _) 4 (by kernel_rfl) (by kernel_rfl) (by kernel_rfl) ?_
    simp only [List.take_succ_cons, List.take_zero, List.drop_succ_cons, List.drop_zero]
    repeat still_step
    refine wpStill_nil ?_
    have hk3 : Kept All A1 A1.drew := (Kept.refl _ _).drew
    generalize A1.drew = A2 at hk3 ⊢
    obtain ⟨fn, tmps, assign, body, hyy, hR⟩ := hY (pre.map fun t => t.2.get x) (y.2.get x) A2 (hJ _ _ _ h1 h0 hk3.all) (Nat.le_trans h0 hk3.size) (by have := hy.map (fun t : F3 × N4 => t.2.get x); simpa using this)
    have hR' : RoundIn (Fence.wide.inRound l') 0 Try.prog l fn tmps assign body A2 _ := hR
    gi_wp2_with fail
    refine ⟨rfl, hR'.mono ?_⟩
    rintro e B (⟨rfl, hj, hk4⟩ | ⟨rfl, hj, hk4⟩)
    · gi_wp2_with fail
      refine ⟨hk3.all.trans (hk4.mono fun k hk hk' => by omega), ?_, by simpa using hj, (h2.kept hk3 trivial).kept hk4 (by omega), (h3.kept hk3 trivial).kept hk4 (by omega)⟩
      have := hk3.size; have := hk4.size; omega
    · gi_wp2_with fail
      refine ⟨hk3.all.trans (hk4.mono fun k hk hk' => by omega), rfl, ?_, by simpa using hj⟩
      have := hk3.size; have := hk4.size; omega
  case done =>
    rintro A hA how ⟨h0, h1, h2, h3⟩ hD
    gi_wp2_with fail
    refine leaves_one' hD (fun w' hk => ?_)
    refine ⟨.tuple #[], by simp [results, Try.results42, go_sem], ⟨_, rfl⟩, Nat.le_trans h0 hk.size, how.kept hk (by omega), .inl ?_⟩
    exact hJ _ _ _ h1 h0 (hk.mono fun k _ h => by omega)
  case stop =>
    rintro c pre A hA how hpre ⟨rfl, h0, h1⟩ hD
    gi_wp2_with fail
    refine leaves_one hD (fun w' hk => ?_)
    refine ⟨.tuple #[], by simp [results, Try.results42, go_sem], ⟨_, rfl⟩, Nat.le_trans h0 hk.size, how.kept hk (by omega), .inr ⟨_, hpre.map _, hJx _ _ _ h1 h0 (hk.mono fun k _ h => by omega)⟩⟩
end

set_option maxHeartbeats 1000000 in
theorem number_any (h : House) (A : Option Addr) (c : Nat) (D : Option Addr) (d : Nat) (w : World) (hin : HIn w h A c D d) (x : Int) :
    Calls Try.prog 15 #[.agg #[.slice A h.ws.length c, .slice D h.days.length d], .int .i64 x] w fun e w' => e = .returned (.tuple #[sV (numR h x), .int .i64 (numE h x)]) ∧ Kept All w w' := by
  have hnw := hin.nd
  go_enter Try.func15, Try.ntmps15
  go_wp2_with fail
  refine (enter_any h A c D d _ (hin.kept (by repeat (first | exact Kept.refl All _ | refine Kept.alloc ?_ _)) (fun _ _ => trivial)) _ 1 _ (ix [x, (h.days.length : Int)]) (by exact nums_two _ _ _ (by simp)) (by omega) (by
      intro j hj; obtain rfl : j = 0 := by omega
      rw [ix2_1]; omega) 38 #[] 0 (enters_of Try.func38 (by kernel_rfl) rfl) (fun w' _ _ _ => (fine_any w').mono (by rintro e w'' ⟨rfl, rfl⟩; exact ⟨rfl, Kept.refl _ _⟩))).mono ?_
  rintro e w1 ⟨hk1, hh⟩
  have hB1 := Blk.kept (((Blk.new' (w := (w.alloc (.cells #[.slice A h.ws.length c, .slice D h.days.length d] 25)).alloc (.cells #[.int .i64 x] 3)) (g := w.heap.size + 1 + 1) 42 #[.int .i64 0, .int .i64 0] (by simp)).alloc _)) hk1 trivial
  have hX1 := Blk.kept ((((Blk.new' (w := (w.alloc (.cells #[.slice A h.ws.length c, .slice D h.days.length d] 25))) (g := w.heap.size + 1) 3 #[.int .i64 x] (by simp)).alloc _).alloc _)) hk1 trivial
  have hk2 : Kept All w w1 := Kept.trans (by repeat (first | exact Kept.refl All _ | refine Kept.alloc ?_ _)) hk1
  have lx := hX1.lt
  have lb := hB1.lt
  clear hk1
  have b0 := hB1.at 0 rfl
  have b1 := hB1.at 1 rfl
  have z0 := hB1.frozen 0
  have z1 := hB1.frozen 1
  rcases hh with ⟨hne, rfl⟩ | ⟨hz, base, hb, km, rfl, hp, hbs, hkm⟩
  · have hne' : (entErr h (ix [x, (h.days.length : Int)]) 1 0 != 0) = true := by simpa using hne
    have HN := Lib.hid hne
    clear hne
    go_wp2_with fail
    have hF := ((hB1.set 0 (.int .i64 0)).set 1 (.int .i64 0)).alloc (.cells #[.pointer none] 74)
    have q0 := hF.at 0 rfl
    have q1 := hF.at 1 rfl
    refine bodyPost_ret (v := .tuple #[sV (0, 0), .int .i64 (numE h x)]) (by simp [results, Try.results15, go_sem, q0, q1, numE]) rfl ⟨?_, ?_⟩
    · rw [numR, if_neg (show ¬ numE h x = 0 from HN.out)]
    · exact ((hk2.setNew (by simp; omega) _).setNew (by simp; omega) _).alloc _
  · obtain ⟨hv, hbad, -, -⟩ := entErr_zero hz
    have hb1 := badIx_one hbad
    have HZ := Lib.hid hz
    simp at hkm
    clear hz hbad
    go_wp2_with fail
    have hbox : Blk (w1.alloc (.cells #[ptr hb] 74)) w1.heap.size 74 #[ptr hb] := Blk.new _ _ _
    have hka : Kept All w1 (w1.alloc (.cells #[ptr hb] 74)) := (Kept.refl _ _).alloc _
    have hza : (w1.alloc (.cells #[ptr hb] 74)).heap.size = w1.heap.size + 1 := by simp
    have hxx : x = ((x.toNat : Nat) : Int) := by
      have := hb1.1
      simp only [ix] at this
      exact (Int.toNat_of_nonneg this).symm
    have hXa := hX1.kept hka trivial
    rw [hxx] at hXa
    have hX' := Lib.hid hxx
    clear hxx
    refine (wide_any (g := 42) (caps := #[ptr w1.heap.size, ptr (w.heap.size + 1)]) _ (enters_of Try.func42 (by kernel_rfl) rfl) (number_iter hv (hp.kept hka (fun _ _ => trivial)) (by omega) hbox x.toNat (by
      have := hb1.2
      simp only [ix] at this
      have h2 : x ≤ (h.days.length : Int) - 1 := this
      have := hb1.1
      have h3 : 0 ≤ x := this
      omega) hXa) (fun A B hc hk => hc.kept hk rfl) (fun k hk => by omega) (fun k hk => by have := hp.klt; omega)).mono ?_
    rintro e w2 ⟨rfl, hk3, hc3⟩
    have hB2 := (hB1.kept hka trivial).kept hk3 (by omega)
    have b0 := hB2.at 0 rfl
    have b1 := hB2.at 1 rfl
    have z0 := hB2.frozen 0
    have z1 := hB2.frozen 1
    go_wp2_with fail
    have hs3 := hk3.size
    have hF := (hB2.set 0 (.int .i64 (wideL ((truths h 0).map fun t => t.2.get x.toNat)).1)).set 1 (.int .i64 (wideL ((truths h 0).map fun t => t.2.get x.toNat)).2)
    have q0 := hF.at 0 rfl
    have q1 := hF.at 1 rfl
    have hR : numR h x = wideL ((truths h 0).map fun t => t.2.get x.toNat) := by rw [numR, if_pos (show numE h x = 0 from HZ.out)]
    have hE : numE h x = 0 := HZ.out
    refine bodyPost_ret (v := .tuple #[sV (numR h x), .int .i64 (numE h x)]) (by simp [results, Try.results15, go_sem, q0, q1, hR, hE]) rfl ⟨rfl, ?_⟩
    exact (((hk2.trans hka).weld hk3 (fun k hk => by omega)).setNew (by simp; omega) _).setNew (by simp; omega) _
end Go.Proofs.Ytiajiahfmfckjaa
