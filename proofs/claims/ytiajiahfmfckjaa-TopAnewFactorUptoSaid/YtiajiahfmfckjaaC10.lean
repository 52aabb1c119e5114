/- The walks of package factor's wide, Factor and Number. -/
import Derived.Test.YtiajiahfmfckjaaC9
namespace Go.Proofs.Ytiajiahfmfckjaa
open Go.RowKit Go.Shelf
attribute [local go_sem] Oper.semAt_some
set_option maxRecDepth 10000

abbrev sV (x : Int × Int) : Value := .agg #[.int .i64 x.1, .int .i64 x.2]
abbrev encS (x : Int × Int) : Array Value := #[sV x]

theorem blk2_set {w : World} {g : Nat} {t : TypeId} {a b : Value} {A1 A2 V1 V2 : Int} (h : Blk w g t #[a, b]) (e1 : A1 = V1) (e2 : A2 = V2) :
    Blk ((w.setCell ⟨g, 0, none⟩ (.int .i64 V1)).setCell ⟨g, 1, none⟩ (.int .i64 V2)) g t #[.int .i64 A1, .int .i64 A2] := by
  subst e1; subst e2; exact (h.set 0 _).set 1 _

set_option maxHeartbeats 1000000 in
theorem wide_any {g : Nat} {caps : Array Value} {xs : List (Int × Int)} {M S : Nat → Prop} {Own : World → Prop} (w : World) (eg : ∀ args w, (callFunc g args).run Try.prog w = .ok (.enter g args) w)
    (hit : Iter Try.prog g caps encS xs M S Own w) (hOwn : ∀ A B, Own A → Kept M A B → Own B) (hS : ∀ k, S k → k < w.heap.size) (hM : ∀ k, M k → k < w.heap.size) :
    Calls Try.prog 39 #[.func (.func g) #[] caps] w fun e w' => e = .returned (sV (wideL xs)) ∧ Kept (fun k => ¬ M k) w w' ∧ Own w' := by
  refine (callsIn_wide (n := 0)).1 (callsIn_of_wp_marks Try.func39 rfl trivial ?_)
  simp only [Try.ntmps39, List.size_toArray, List.length_cons, List.length_nil, Nat.reduceAdd, Nat.reduceSub, Array.replicate_succ, Array.replicate_zero, List.push_toArray, List.append_toArray, List.nil_append, List.cons_append]
  gi_wp2_with fail
  obtain ⟨w1, hw1⟩ : ∃ w1, w.alloc (.cells #[.int .i64 9223372036854775807, .int .i64 (-1)] 42) = w1 := ⟨_, rfl⟩
  have hk1 : Kept All w w1 := by rw [← hw1]; exact (Kept.refl _ _).alloc _
  have hr1 : Blk w1 w.heap.size 42 #[.int .i64 (wideL []).1, .int .i64 (wideL []).2] := by rw [← hw1]; exact Blk.new _ _ _
  have hz1 : w1.heap.size = w.heap.size + 1 := by rw [← hw1]; simp
  rw [hw1]
  clear hw1
  refine wp_range (gf := g) (caps := caps) rfl eg (hit.later hk1) hOwn (fun _ => rfl) (fun k hk => by have := hS k hk; omega) (fun k hk => by have := hM k hk; omega)
    (fun pre W => Blk W w.heap.size 42 #[.int .i64 (wideL pre).1, .int .i64 (wideL pre).2] ∧ Kept (fun k => ¬ M k) w W)
    (fun c pre W => False)
    ?_ ?_ ⟨hr1, hk1.all⟩ ?round ?done ?stop
  · rintro pre A B ⟨h2, h3⟩ hA hk
    exact ⟨h2.kept hk ⟨by omega, fun hm => by have := hM _ hm; omega⟩, ⟨hk.os.trans h3.os, hk.tape.trans h3.tape, hk.output.trans h3.output, Nat.le_trans h3.size hk.size, fun k hk1 hk2 => (hk.block k (by have := h3.size; omega) ⟨by omega, hk2⟩).trans (h3.block k hk1 hk2)⟩⟩
  · rintro c pre A B h hA hk
    exact h
  case round =>
    rintro l pre x W hl hW hr hi hx
    obtain ⟨rr, hrr⟩ := hr
    have hlW := lt_of_heap hrr
    gi_wp2
    refine ⟨(Kept.refl _ _).alloc _, ?_⟩
    rintro W' hk ⟨h2, h3⟩
    have hxb := (Blk.new W 42 #[.int .i64 x.1, .int .i64 x.2]).kept hk (by omega)
    have x0 := hxb.at 0 rfl
    have x1 := hxb.at 1 rfl
    have r0 := h2.at 0 rfl
    have r1 := h2.at 1 rfl
    have z0 := h2.frozen 0
    have z1 := h2.frozen 1
    gi_wp2_with fail
    all_goals
      have hns : ∀ k, (S k ∨ w.heap.size + 1 ≤ k) → k ≠ w.heap.size := fun k h => by
        rcases h with h | h
        · have := hS _ h; omega
        · omega
      refine ⟨((Kept.refl _ _).setCell (fun _ h => hns _ h rfl) _).setCell (fun _ h => hns _ h rfl) _, ?_, (h3.setNew (by simp) _).setNew (by simp) _⟩
      rw [wideL_snoc]
      exact blk2_set h2 (by simp only [wideStep]; split <;> omega) (by simp only [wideStep]; split <;> omega)
  case done =>
    rintro W hW how ⟨h2, h3⟩ hD
    have r0 := h2.at 0 rfl
    have r1 := h2.at 1 rfl
    have z0 := h2.frozen 0
    have z1 := h2.frozen 1
    gi_wp2_with fail
    have h4 := (h2.set 0 (.int .i64 (wideL xs).1)).set 1 (.int .i64 (wideL xs).2)
    have hk4 : Kept (fun k => k ≠ w.heap.size) W ((W.setCell ⟨w.heap.size, 0, none⟩ (.int .i64 (wideL xs).1)).setCell ⟨w.heap.size, 1, none⟩ (.int .i64 (wideL xs).2)) := ((Kept.refl _ _).setCell (fun _ h => h rfl) _).setCell (fun _ h => h rfl) _
    refine leaves_one (hk4.heap hD (by omega)) (fun w' hk => ?_)
    have h5 := h4.kept hk (by omega)
    have q0 := h5.at 0 rfl
    have q1 := h5.at 1 rfl
    refine ⟨sV (wideL xs), by simp [results, Try.results39, go_sem, q0, q1], rfl, ?_, ?_⟩
    · refine ⟨hk.os.trans (hk4.os.trans h3.os), hk.tape.trans (hk4.tape.trans h3.tape), hk.output.trans (hk4.output.trans h3.output), Nat.le_trans h3.size (Nat.le_trans hk4.size hk.size), fun k hk1 hk2 => ?_⟩
      have s1 := h3.size
      have s2 := hk4.size
      exact (hk.block k (by omega) (by omega)).trans ((hk4.block k (by omega) (by omega)).trans (h3.block k hk1 hk2))
    · exact hOwn _ _ (hOwn _ _ how (hk4.mono fun k _ hm => by have := hM k hm; omega)) (hk.mono fun k _ hm => by have := hM k hm; omega)
  case stop =>
    rintro c pre W hW how hpre h hD
    exact h.elim

section
variable {base hb km : Nat} {h : House} {A : Option Addr} {c : Nat} {D : Option Addr} {d bh bw : Nat} {w : World}

/-- what a closure over truths needs: the box of the house's pointer, and one of a number -/
theorem factor_iter (hv : Valid h) (hp : HP base w hb km h 0 A c D d) (hbase : base ≤ w.heap.size) (hh : Blk w bh 74 #[ptr hb]) (x : Nat) (hx : x < h.ws.length) (hw : Blk w bw 3 #[.int .i64 x]) :
    Iter Try.prog 40 #[ptr bh, ptr bw] encS ((truths h 0).map fun t => (t.1.get x, t.1.get x)) (fun k => k = km) (fun k => k < base ∨ k = bh ∨ k = bw) (fun B => Cache B km enc3 (GoodN h 0)) w := by
  intro l J Jx W hkW hJ hJx hY h0
  refine (callsIn_wide (n := 0)).1 (callsIn_of_wp_marks Try.func40 rfl trivial ?_)
  simp only [Try.ntmps40, List.size_toArray, List.length_cons, List.length_nil, Nat.reduceAdd, Nat.reduceSub, Array.replicate_succ, Array.replicate_zero, List.push_toArray, List.append_toArray, List.nil_append, List.cons_append]
  have hnw := hv.nw
  have hh0 := (hh.kept hkW trivial).at 0 rfl
  have lh := (hh.kept hkW trivial).lt
  gi_wp2_with fail
  refine ⟨trivial, rfl, open_wide.calls ((truths_any _ _).mono ?_)⟩
  rintro e w1 ⟨rfl, rfl⟩
  gi_wp2_with fail
  obtain ⟨w2, hw2⟩ : ∃ w2, (W.alloc (.cells #[.func (.yield l) #[] #[]] 79)).alloc (.cells #[ptr hb] 74) = w2 := ⟨_, rfl⟩
  have hk2 : Kept All W w2 := by rw [← hw2]; exact ((Kept.refl _ _).alloc _).alloc _
  have hy2 : Blk w2 W.heap.size 79 #[.func (.yield l) #[] #[]] := by rw [← hw2]; exact (Blk.new _ _ _).alloc _
  have hs2 : Blk w2 (W.heap.size + 1) 74 #[ptr hb] := by rw [← hw2]; exact Blk.new' _ _ (by simp)
  have hz2 : w2.heap.size = W.heap.size + 2 := by rw [← hw2]; simp
  rw [hw2]
  clear hw2 hh0
  have hp2 := hp.kept (hkW.trans hk2) (fun _ _ => trivial)
  have hb2 := (hw.kept hkW trivial).kept hk2 trivial
  have lw := (hw.kept hkW trivial).lt
  have hklt := hp.klt
  have hWs := hkW.size
  have hnk : bw ≠ km := fun e => by
    obtain ⟨es, ck, hh', _⟩ := hp2.cache
    subst e; unfold Blk at hb2; rw [hh'] at hb2; cases hb2
  refine wp_range (gf := 70) (caps := #[ptr (W.heap.size + 1)]) rfl (enters_of Try.func70 (by kernel_rfl) rfl) (truths_iter hv hp2 hs2 (by omega))
    (fun A B hc hk => hc.kept hk rfl) (fun _ => rfl) (fun k hk => by omega) (fun k hk => by omega)
    (fun pre A => W.heap.size ≤ A.heap.size ∧ J (pre.map fun t => (t.1.get x, t.1.get x)) A ∧ Blk A W.heap.size 79 #[.func (.yield l) #[] #[]] ∧ Blk A bw 3 #[.int .i64 x])
    (fun c pre A => c = .ret ∧ W.heap.size ≤ A.heap.size ∧ Jx (pre.map fun t => (t.1.get x, t.1.get x)) A)
    ?_ ?_ ⟨hk2.size, hJ _ _ _ h0 (Nat.le_refl _) hk2.all, hy2, hb2⟩ ?round ?done ?stop
  · rintro pre A B ⟨h0, h1, h2, h3⟩ hA hk
    exact ⟨Nat.le_trans h0 hk.size, hJ _ _ _ h1 h0 (hk.mono fun k _ h => ⟨by omega, h.2⟩), h2.kept hk ⟨by omega, by omega⟩, h3.kept hk ⟨by omega, hnk⟩⟩
  · rintro c pre A B ⟨h0, h1, h2⟩ hA hk
    exact ⟨h0, Nat.le_trans h1 hk.size, hJx _ _ _ h2 h1 (hk.mono fun k _ h => ⟨by omega, h.2⟩)⟩
  case round =>
    rintro l' pre y A hl hA hr hi hy
    obtain ⟨rr, hrr⟩ := hr
    have hlA := lt_of_heap hrr
    gi_wp2
    refine ⟨(Kept.refl _ _).alloc _, ?_⟩
    rintro A1 hk ⟨h0, h1, h2, h3⟩
    have hfb := (Blk.new A 84 (fC y.1)).kept hk (by omega)
    have lfb := hfb.lt
    have f0 := hfb.at 0 rfl
    have f1 := hfb.at 1 rfl
    have f2 := hfb.at 2 rfl
    have y0 := h2.at 0 rfl
    have x0 := h3.at 0 rfl
    have fx : A1.cell? ⟨A.heap.size, x, none⟩ = some (.int .i64 (y.1.get x)) := by
      have : x = 0 ∨ x = 1 ∨ x = 2 := by omega
      rcases this with e | e | e <;> (rw [e]; exact hfb.at _ rfl)
    have hx3 : (x : Int) < 3 := by omega
    have hx3n : x < 3 := by omega
    gi_wp2_with fail
    refine wpIn_tail (open_round _) 8 (by kernel_rfl) (by kernel_rfl) (by kernel_rfl) ?_
    simp only [List.take_succ_cons, List.take_zero, List.drop_succ_cons, List.drop_zero]
    repeat still_step
    refine wpStill_nil ?_
    have hk3 : Kept All A1 A1.drew := (Kept.refl _ _).drew
    generalize A1.drew = A2 at hk3 ⊢
    obtain ⟨fn, tmps, assign, body, hyy, hR⟩ := hY (pre.map fun t => (t.1.get x, t.1.get x)) (y.1.get x, y.1.get x) A2 (hJ _ _ _ h1 h0 hk3.all) (Nat.le_trans h0 hk3.size) (by have := hy.map (fun t : F3 × N4 => (t.1.get x, t.1.get x)); simpa using this)
    have hR' : RoundIn (Fence.wide.inRound l') 0 Try.prog l fn tmps assign body A2 _ := hR
    gi_wp2_with fail
    refine ⟨rfl, hR'.mono ?_⟩
    rintro e B (⟨rfl, hj, hk4⟩ | ⟨rfl, hj, hk4⟩)
    · gi_wp2_with fail
      refine ⟨hk3.all.trans (hk4.mono fun k hk hk' => by omega), ?_, by simpa using hj, (h2.kept hk3 trivial).kept hk4 (by omega), (h3.kept hk3 trivial).kept hk4 (by omega)⟩
      have := hk3.size; have := hk4.size; omega
    · gi_wp2_with fail
      refine ⟨hk3.all.trans (hk4.mono fun k hk hk' => by omega), rfl, ?_, by simpa using hj⟩
      have := hk3.size; have := hk4.size; omega
  case done =>
    rintro A hA how ⟨h0, h1, h2, h3⟩ hD
    gi_wp2_with fail
    refine leaves_one' hD (fun w' hk => ?_)
    refine ⟨.tuple #[], by simp [results, Try.results40, go_sem], ⟨_, rfl⟩, Nat.le_trans h0 hk.size, how.kept hk (by omega), .inl ?_⟩
    exact hJ _ _ _ h1 h0 (hk.mono fun k _ h => by omega)
  case stop =>
    rintro c pre A hA how hpre ⟨rfl, h0, h1⟩ hD
    gi_wp2_with fail
    refine leaves_one hD (fun w' hk => ?_)
    refine ⟨.tuple #[], by simp [results, Try.results40, go_sem], ⟨_, rfl⟩, Nat.le_trans h0 hk.size, how.kept hk (by omega), .inr ⟨_, hpre.map _, hJx _ _ _ h1 h0 (hk.mono fun k _ h => by omega)⟩⟩
end
end Go.Proofs.Ytiajiahfmfckjaa
