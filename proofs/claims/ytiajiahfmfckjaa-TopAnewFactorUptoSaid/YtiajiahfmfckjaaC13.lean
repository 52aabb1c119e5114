/- The walks of package factor's Would. -/
import Derived.Test.YtiajiahfmfckjaaC12
import Derived.Test.YtiajiahfmfckjaaBh
namespace Go.Proofs.Ytiajiahfmfckjaa
open Go.RowKit Go.Shelf
attribute [local go_sem] Oper.semAt_some
set_option maxRecDepth 10000

def otherW (h : House) (dy wt : Nat) : Int := if ix (h.d dy) wt = -1 then 0 else 5

set_option maxHeartbeats 1000000 in
theorem other_any {h : House} {A : Option Addr} {c : Nat} {D : Option Addr} {d bc bd bw : Nat} (hv : Valid h) (w : World) (hin : HIn w h A c D d) (hB : Blk w bc 25 #[.slice A h.ws.length c, .slice D h.days.length d]) (dy wt : Nat) (hd : dy < h.days.length) (hw : wt < h.ws.length)
    (h1 : Blk w bd 3 #[.int .i64 dy]) (h2 : Blk w bw 3 #[.int .i64 wt]) :
    Calls Try.prog 43 #[ptr bc, ptr bd, ptr bw] w fun e w' => e = .returned (.int .i64 (otherW h dy wt)) ∧ Kept All w w' := by
  have hnw := hv.nw
  have hnd := hv.nd
  have hdl := hv.dl dy hd
  obtain ⟨db, dof, rfl, hdc⟩ := hin.days (by omega)
  obtain ⟨B, e, c1, hnums, c3⟩ := hdc dy hd
  clear hdc
  obtain ⟨nb, no, rfl, hnc⟩ := hnums (by omega)
  have n1 := hnc wt (by omega)
  clear hnc hnums
  have b0 := hB.at 0 rfl
  have b1 := hB.at 1 rfl
  have d0 := h1.at 0 rfl
  have w0 := h2.at 0 rfl
  rw [hdl] at c1
  by_cases hm : ix (h.d dy) wt = -1
  · have hm' : (ix (h.d dy) wt != -1) = false := by simp [hm]
    have hR : otherW h dy wt = 0 := by rw [otherW, if_pos hm]
    rw [hR]
    clear hm hR hdl
    go_enter Try.func43, Try.ntmps43
    go_wp2_with fail
    go_quiet (fail)
    have hk2 : Kept All w (w.drewN nq) := (Kept.refl _ _).drewN nq
    generalize w.drewN nq = W at hk2 ⊢
    go_wp2_with fail
    go_ret
    exact ⟨rfl, hk2⟩
  · have hm' : (ix (h.d dy) wt != -1) = true := by simp [hm]
    have hR : otherW h dy wt = 5 := by rw [otherW, if_neg hm]
    rw [hR]
    clear hm hR hdl
    go_enter Try.func43, Try.ntmps43
    go_wp2_with fail
    go_quiet (fail)
    have hk2 : Kept All w (w.drewN nq) := (Kept.refl _ _).drewN nq
    generalize w.drewN nq = W at hk2 ⊢
    go_wp2_with fail
    go_ret
    exact ⟨rfl, hk2⟩

theorem enum_ge {h : House} {but : Int} (hv : Valid h) : ∀ (b : Nat) (f : F3) (t : F3 × N4), b ≤ h.ws.length → (∀ i, i < h.ws.length - b → 1 ≤ f.get i ∧ f.get i ≤ 300) → t ∈ enum h but b f → ∀ i, i < h.ws.length → 1 ≤ t.1.get i ∧ t.1.get i ≤ 300
  | 0, f, t, _, hf, ht, i, hi => by
    unfold enum at ht
    split at ht
    · cases ht
    · have : t = (f, numbersOf h but f) := by simpa using ht
      subst this
      exact hf i (by omega)
  | b + 1, f, t, hb, hf, ht, i, hi => by
    unfold enum at ht
    obtain ⟨n, hn, ht⟩ := List.mem_flatMap.1 ht
    refine enum_ge hv b _ t (by omega) (fun k hk => ?_) ht i hi
    have hnw := hv.nw
    rw [F3.get_set (by omega) (by omega)]
    split
    · obtain ⟨q, hq, rfl⟩ := List.mem_map.1 hn
      have := List.mem_range.1 hq
      have := hv.wat (h.ws.length - (b + 1)) (by omega)
      omega
    · exact hf k (by omega)
theorem truths_ge {h : House} {but : Int} (hv : Valid h) {t : F3 × N4} (ht : t ∈ truths h but) (i : Nat) (hi : i < h.ws.length) : 1 ≤ t.1.get i ∧ t.1.get i ≤ 300 :=
  enum_ge hv _ _ t (Nat.le_refl _) (fun i hi => by omega) ht i hi

def canLo (n f off : Int) : Int := IntKind.i64.wrap (IntKind.i64.wrap ((IntKind.i64.wrap (IntKind.i64.wrap (n + f) - 1)).tdiv f) - off)
def canHi (n f off : Int) : Int := IntKind.i64.wrap (IntKind.i64.wrap (n.tdiv f) + off)
def canN (h : House) (dy wt : Nat) (t : F3 × N4) : Int × Int :=
  (if 0 < canLo (t.2.get dy).1 (t.1.get wt) (h.w wt).off then canLo (t.2.get dy).1 (t.1.get wt) (h.w wt).off else 0, if canHi (t.2.get dy).2 (t.1.get wt) (h.w wt).off < 120 then canHi (t.2.get dy).2 (t.1.get wt) (h.w wt).off else 120)
def canO (h : House) (dy wt : Nat) (t : F3 × N4) : Option (Int × Int) := if (canN h dy wt t).1 ≤ (canN h dy wt t).2 then some (canN h dy wt t) else none

section
variable {base hb km : Nat} {h : House} {A : Option Addr} {c : Nat} {D : Option Addr} {d bh bw bc bd : Nat} {w : World}
set_option maxHeartbeats 4000000 in
theorem would_iter (hv : Valid h) (hp : HP base w hb km h 0 A c D d) (hbase : base ≤ w.heap.size) (hh : Blk w bh 74 #[ptr hb]) (hB : Blk w bc 25 #[.slice A h.ws.length c, .slice D h.days.length d]) (dy wt : Nat) (hd : dy < h.days.length) (hw : wt < h.ws.length)
    (h1 : Blk w bd 3 #[.int .i64 dy]) (h2 : Blk w bw 3 #[.int .i64 wt]) (hin : HIn w h A c D d) :
    Iter Try.prog 44 #[ptr bc, ptr bw, ptr bh, ptr bd] encS ((truths h 0).filterMap (canO h dy wt)) (fun k => k = km) (fun k => k < base ∨ k = bh ∨ k = bw ∨ k = bd ∨ k = bc) (fun B => Cache B km enc3 (GoodN h 0)) w := by
  intro l J Jx W hkW hJ hJx hY h0
  refine (callsIn_wide (n := 0)).1 (callsIn_of_wp_marks Try.func44 rfl trivial ?_)
  simp only [Try.ntmps44, List.size_toArray, List.length_cons, List.length_nil, Nat.reduceAdd, Nat.reduceSub, Array.replicate_succ, Array.replicate_zero, List.push_toArray, List.append_toArray, List.nil_append, List.cons_append]
  have hnw := hv.nw
  have hnd := hv.nd
  have hinW := hin.kept hkW (fun _ _ => trivial)
  have hh0 := (hh.kept hkW trivial).at 0 rfl
  have lh := (hh.kept hkW trivial).lt
  have c0 := (hB.kept hkW trivial).at 0 rfl
  have w0 := (h2.kept hkW trivial).at 0 rfl
  have d0 := (h1.kept hkW trivial).at 0 rfl
  have lc := (hB.kept hkW trivial).lt
  have lw := (h2.kept hkW trivial).lt
  have ld := (h1.kept hkW trivial).lt
  obtain ⟨ab, ao, rfl, hwc⟩ := hinW.wats (by omega)
  obtain ⟨x1, x2, x3, x4⟩ := hwc wt hw
  clear hwc
  have lab : ab < W.heap.size := lt_of_cell x1
  have wti : (wt : Int) < (h.ws.length : Int) := by omega
  gi_wp2_with fail
  refine ⟨trivial, rfl, open_wide.calls ((truths_any _ _).mono ?_)⟩
  rintro e w1 ⟨rfl, rfl⟩
  gi_wp2_with fail
  obtain ⟨w2, hw2⟩ : ∃ w2, ((W.alloc (.cells #[.func (.yield l) #[] #[]] 79)).alloc (.cells #[.string (h.w wt).name, .int .i64 (h.w wt).lo, .int .i64 (h.w wt).hi, .int .i64 (h.w wt).off] 64)).alloc (.cells #[ptr hb] 74) = w2 := ⟨_, rfl⟩
  have hk2 : Kept All W w2 := by rw [← hw2]; exact (((Kept.refl _ _).alloc _).alloc _).alloc _
  have hy2 : Blk w2 W.heap.size 79 #[.func (.yield l) #[] #[]] := by rw [← hw2]; exact ((Blk.new _ _ _).alloc _).alloc _
  have ho2 : Blk w2 (W.heap.size + 1) 64 #[.string (h.w wt).name, .int .i64 (h.w wt).lo, .int .i64 (h.w wt).hi, .int .i64 (h.w wt).off] := by rw [← hw2]; exact (Blk.new' _ _ (by simp)).alloc _
  have hs2 : Blk w2 (W.heap.size + 2) 74 #[ptr hb] := by rw [← hw2]; exact Blk.new' _ _ (by simp)
  have hz2 : w2.heap.size = W.heap.size + 3 := by rw [← hw2]; simp
  rw [hw2]
  clear hw2 hh0 c0 w0 d0 x1 x2 x3 x4
  have hp2 := hp.kept (hkW.trans hk2) (fun _ _ => trivial)
  have hb2 := (h2.kept hkW trivial).kept hk2 trivial
  have hd2 := (h1.kept hkW trivial).kept hk2 trivial
  have hklt := hp.klt
  have hWs := hkW.size
  have hnk : bw ≠ km := fun e => by
    obtain ⟨es, ck, hh', _⟩ := hp2.cache
    subst e; unfold Blk at hb2; rw [hh'] at hb2; cases hb2
  have hnd' : bd ≠ km := fun e => by
    obtain ⟨es, ck, hh', _⟩ := hp2.cache
    subst e; unfold Blk at hd2; rw [hh'] at hd2; cases hd2
  refine wp_range (gf := 70) (caps := #[ptr (W.heap.size + 2)]) rfl (enters_of Try.func70 (by kernel_rfl) rfl) (truths_iter hv hp2 hs2 (by omega))
    (fun A B hc hk => hc.kept hk rfl) (fun _ => rfl) (fun k hk => by omega) (fun k hk => by omega)
    (fun pre A => W.heap.size ≤ A.heap.size ∧ J (pre.filterMap (canO h dy wt)) A ∧ Blk A W.heap.size 79 #[.func (.yield l) #[] #[]] ∧ Blk A (W.heap.size + 1) 64 #[.string (h.w wt).name, .int .i64 (h.w wt).lo, .int .i64 (h.w wt).hi, .int .i64 (h.w wt).off] ∧ Blk A bw 3 #[.int .i64 wt] ∧ Blk A bd 3 #[.int .i64 dy])
    (fun c pre A => c = .ret ∧ W.heap.size ≤ A.heap.size ∧ Jx (pre.filterMap (canO h dy wt)) A)
    ?_ ?_ ⟨hk2.size, hJ _ _ _ h0 (Nat.le_refl _) hk2.all, hy2, ho2, hb2, hd2⟩ ?round ?done ?stop
  · rintro pre A B ⟨h0, h1, h2, h3, h4, h5⟩ hA hk
    exact ⟨Nat.le_trans h0 hk.size, hJ _ _ _ h1 h0 (hk.mono fun k _ h => ⟨by omega, h.2⟩), h2.kept hk ⟨by omega, by omega⟩, h3.kept hk ⟨by omega, by omega⟩, h4.kept hk ⟨by omega, hnk⟩, h5.kept hk ⟨by omega, hnd'⟩⟩
  · rintro c pre A B ⟨h0, h1, h2⟩ hA hk
    exact ⟨h0, Nat.le_trans h1 hk.size, hJx _ _ _ h2 h1 (hk.mono fun k _ h => ⟨by omega, h.2⟩)⟩
  case round =>
    rintro l' pre y A hl hA hr hi hy
    obtain ⟨rr, hrr⟩ := hr
    have hlA := lt_of_heap hrr
    gi_wp2
    refine ⟨((Kept.refl _ _).alloc _).alloc _, ?_⟩
    rintro A1 hk ⟨h0, h1, h2, h3, h4, h5⟩
    have hfb := ((Blk.new A 84 (fC y.1)).alloc (.cells (nC y.2) 87)).kept hk (by omega)
    have hnb := ((Blk.new' (g := A.heap.size + 1) (w := A.alloc (.cells (fC y.1) 84)) 87 (nC y.2) (by simp))).kept hk (by omega)
    have lfb := hfb.lt
    have lnb := hnb.lt
    have lb3 := h3.lt
    have y0 := h2.at 0 rfl
    have o3 := h3.at 3 rfl
    have x0 := h4.at 0 rfl
    have d0 := h5.at 0 rfl
    have fx : A1.cell? ⟨A.heap.size, wt, none⟩ = some (.int .i64 (y.1.get wt)) := by
      have : wt = 0 ∨ wt = 1 ∨ wt = 2 := by omega
      rcases this with e | e | e <;> (rw [e]; exact hfb.at _ rfl)
    have fx0 : A1.cell? ⟨A.heap.size + 1, dy * 2, none⟩ = some (.int .i64 (y.2.get dy).1) := by
      have : dy = 0 ∨ dy = 1 ∨ dy = 2 ∨ dy = 3 := by omega
      rcases this with e | e | e | e <;> (rw [e]; exact hnb.at _ rfl)
    have fx1 : A1.cell? ⟨A.heap.size + 1, dy * 2 + 1, none⟩ = some (.int .i64 (y.2.get dy).2) := by
      have : dy = 0 ∨ dy = 1 ∨ dy = 2 ∨ dy = 3 := by omega
      rcases this with e | e | e | e <;> (rw [e]; exact hnb.at _ rfl)
    have hx3 : (wt : Int) < 3 := by omega
    have hx3n : wt < 3 := by omega
    have hx4 : (dy : Int) < 4 := by omega
    have hx4n : dy < 4 := by omega
    have hmem : y ∈ truths h 0 := by
      obtain ⟨q, hq⟩ := hy
      rw [← hq]; simp
    obtain ⟨hg1, hg2⟩ := truths_ge hv hmem wt hw
    have hg0 : (y.1.get wt == 0) = false := by simp; omega
    have hgn : ¬ y.1.get wt = 0 := by omega
    have hgm : ¬ y.1.get wt = -1 := by omega
    gi_wp2_with fail
    refine wpIn_held (open_round _) (fun w' => w'.cell? ⟨bd, 0, none⟩ = some (.int .i64 dy) ∧ w'.cell? ⟨bw, 0, none⟩ = some (.int .i64 wt) ∧ w'.cell? ⟨A.heap.size, wt, none⟩ = some (.int .i64 (y.1.get wt)) ∧ w'.cell? ⟨A.heap.size + 1, dy * 2, none⟩ = some (.int .i64 (y.2.get dy).1) ∧ w'.cell? ⟨A.heap.size + 1, dy * 2 + 1, none⟩ = some (.int .i64 (y.2.get dy).2) ∧ w'.cell? ⟨W.heap.size + 1, 3, none⟩ = some (.int .i64 (h.w wt).off)) (by kernel_rfl) (by kernel_rfl) (by rintro ⟨a, w, h⟩; exact h) ⟨d0, x0, fx, fx0, fx1, o3⟩ (fun hHeld => ?_)
    simp only [List.size_toArray, List.length_cons, List.length_nil, Nat.reduceAdd, Array.replicate_succ, Array.replicate_zero, List.push_toArray, List.append_toArray, List.nil_append, List.cons_append]
    refine wpAnyH_take (i := 0) (v := ?_) rfl (by kernel_rfl) (by kernel_rfl) (by kernel_rfl) (fun _ _ _ h => h) (Or.inl ⟨by rfl, fun w hSw => ?_⟩) (by assumption) ?_; rotate_left; (dsimp only at hSw; go_simp; try with_reducible rfl); simp only [Act.put, List.setIfInBounds_toArray, List.set_cons_zero, List.set_cons_succ]
    refine wpAnyH_take (i := 1) (v := ?_) rfl (by kernel_rfl) (by kernel_rfl) (by kernel_rfl) (fun _ _ _ h => h) (Or.inl ⟨by rfl, fun w hSw => ?_⟩) (by assumption) ?_; rotate_left; (dsimp only at hSw; go_simp; try with_reducible rfl); simp only [Act.put, List.setIfInBounds_toArray, List.set_cons_zero, List.set_cons_succ]
    refine wpAnyH_take (i := 2) (v := ?_) rfl (by kernel_rfl) (by kernel_rfl) (by kernel_rfl) (fun _ _ _ h => h) (Or.inl ⟨by rfl, fun w hSw => ?_⟩) (by assumption) ?_; rotate_left; (dsimp only at hSw; go_simp; try with_reducible rfl); simp only [Act.put, List.setIfInBounds_toArray, List.set_cons_zero, List.set_cons_succ]
    refine wpAnyH_take (i := 3) (v := ?_) rfl (by kernel_rfl) (by kernel_rfl) (by kernel_rfl) (fun _ _ _ h => h) (Or.inl ⟨by rfl, fun w hSw => ?_⟩) (by assumption) ?_; rotate_left; (dsimp only at hSw; go_simp; try with_reducible rfl); simp only [Act.put, List.setIfInBounds_toArray, List.set_cons_zero, List.set_cons_succ]
    refine wpAnyH_take (i := 4) (v := ?_) rfl (by kernel_rfl) (by kernel_rfl) (by kernel_rfl) (fun _ _ _ h => h) (Or.inl ⟨by rfl, fun w hSw => ?_⟩) (by assumption) ?_; rotate_left; (dsimp only at hSw; go_simp; try with_reducible rfl); simp only [Act.put, List.setIfInBounds_toArray, List.set_cons_zero, List.set_cons_succ]
    refine wpAnyH_take (i := 5) (v := ?_) rfl (by kernel_rfl) (by kernel_rfl) (by kernel_rfl) (fun _ _ _ h => h) (Or.inl ⟨by rfl, fun w hSw => ?_⟩) (by assumption) ?_; rotate_left; (dsimp only at hSw; go_simp; try with_reducible rfl); simp only [Act.put, List.setIfInBounds_toArray, List.set_cons_zero, List.set_cons_succ]
    refine wpAnyH_take (i := 6) (v := ?_) rfl (by kernel_rfl) (by kernel_rfl) (by kernel_rfl) (fun _ _ _ h => h) (Or.inl ⟨by rfl, fun w hSw => ?_⟩) (by assumption) ?_; rotate_left; (dsimp only at hSw; go_simp; try with_reducible rfl); simp only [Act.put, List.setIfInBounds_toArray, List.set_cons_zero, List.set_cons_succ]
    refine wpAnyH_take (i := 7) (v := ?_) rfl (by kernel_rfl) (by kernel_rfl) (by kernel_rfl) (fun _ _ _ h => h) (Or.inl ⟨by rfl, fun w hSw => ?_⟩) (by assumption) ?_; rotate_left; (dsimp only at hSw; go_simp; try with_reducible rfl); simp only [Act.put, List.setIfInBounds_toArray, List.set_cons_zero, List.set_cons_succ]
    refine wpAnyH_take (i := 8) (v := ?_) rfl (by kernel_rfl) (by kernel_rfl) (by kernel_rfl) (fun _ _ _ h => h) (Or.inl ⟨by rfl, fun w hSw => ?_⟩) (by assumption) ?_; rotate_left; (dsimp only at hSw; go_simp; try with_reducible rfl); simp only [Act.put, List.setIfInBounds_toArray, List.set_cons_zero, List.set_cons_succ]
    refine wpAnyH_take (i := 9) (v := ?_) rfl (by kernel_rfl) (by kernel_rfl) (by kernel_rfl) (fun _ _ _ h => h) (Or.inl ⟨by rfl, fun w hSw => ?_⟩) (by assumption) ?_; rotate_left; (dsimp only at hSw; go_simp; try with_reducible rfl); simp only [Act.put, List.setIfInBounds_toArray, List.set_cons_zero, List.set_cons_succ]
    refine wpAnyH_take (i := 10) (v := ?_) rfl (by kernel_rfl) (by kernel_rfl) (by kernel_rfl) (fun _ _ _ h => h) (Or.inl ⟨by rfl, fun w hSw => ?_⟩) (by assumption) ?_; rotate_left; (dsimp only at hSw; go_simp; try with_reducible rfl); simp only [Act.put, List.setIfInBounds_toArray, List.set_cons_zero, List.set_cons_succ]
    refine wpAnyH_take (i := 11) (v := ?_) rfl (by kernel_rfl) (by kernel_rfl) (by kernel_rfl) (fun _ _ _ h => h) (Or.inl ⟨by rfl, fun w hSw => ?_⟩) (by assumption) ?_; rotate_left; (dsimp only at hSw; go_simp; try with_reducible rfl); simp only [Act.put, List.setIfInBounds_toArray, List.set_cons_zero, List.set_cons_succ]
    refine wpAnyH_take (i := 12) (v := ?_) rfl (by kernel_rfl) (by kernel_rfl) (by kernel_rfl) (fun _ _ _ h => h) (Or.inl ⟨by rfl, fun w hSw => ?_⟩) (by assumption) ?_; rotate_left; (dsimp only at hSw; go_simp; try with_reducible rfl); simp only [Act.put, List.setIfInBounds_toArray, List.set_cons_zero, List.set_cons_succ]
    refine wpAnyH_take (i := 13) (v := ?_) rfl (by kernel_rfl) (by kernel_rfl) (by kernel_rfl) (fun _ _ _ h => h) (Or.inl ⟨by rfl, fun w hSw => ?_⟩) (by assumption) ?_; rotate_left; (dsimp only at hSw; go_simp; try with_reducible rfl); simp only [Act.put, List.setIfInBounds_toArray, List.set_cons_zero, List.set_cons_succ]
    refine wpAnyH_take (i := 14) (v := ?_) rfl (by kernel_rfl) (by kernel_rfl) (by kernel_rfl) (fun _ _ _ h => h) (Or.inl ⟨by rfl, fun w hSw => ?_⟩) (by assumption) ?_; rotate_left; (dsimp only at hSw; go_simp; try with_reducible rfl); simp only [Act.put, List.setIfInBounds_toArray, List.set_cons_zero, List.set_cons_succ]
    refine wpAnyH_take (i := 15) (v := ?_) rfl (by kernel_rfl) (by kernel_rfl) (by kernel_rfl) (fun _ _ _ h => h) (Or.inl ⟨by rfl, fun w hSw => ?_⟩) (by assumption) ?_; rotate_left; (dsimp only at hSw; go_simp; try with_reducible rfl); simp only [Act.put, List.setIfInBounds_toArray, List.set_cons_zero, List.set_cons_succ]
    refine wpAnyH_take (i := 16) (v := ?_) rfl (by kernel_rfl) (by kernel_rfl) (by kernel_rfl) (fun _ _ _ h => h) (Or.inl ⟨by rfl, fun w hSw => ?_⟩) (by assumption) ?_; rotate_left; (dsimp only at hSw; go_simp; try with_reducible rfl); simp only [Act.put, List.setIfInBounds_toArray, List.set_cons_zero, List.set_cons_succ]
    refine wpAnyH_take (i := 17) (v := ?_) rfl (by kernel_rfl) (by kernel_rfl) (by kernel_rfl) (fun _ _ _ h => h) (Or.inl ⟨by rfl, fun w hSw => ?_⟩) (by assumption) ?_; rotate_left; (dsimp only at hSw; go_simp; try with_reducible rfl); simp only [Act.put, List.setIfInBounds_toArray, List.set_cons_zero, List.set_cons_succ]
    refine wpAnyH_take (i := 18) (v := ?_) rfl (by kernel_rfl) (by kernel_rfl) (by kernel_rfl) (fun _ _ _ h => h) (Or.inl ⟨by rfl, fun w hSw => ?_⟩) (by assumption) ?_; rotate_left; (dsimp only at hSw; go_simp; try with_reducible rfl); simp only [Act.put, List.setIfInBounds_toArray, List.set_cons_zero, List.set_cons_succ]
    refine wpAnyH_take (i := 19) (v := ?_) rfl (by kernel_rfl) (by kernel_rfl) (by kernel_rfl) (fun _ _ _ h => h) (Or.inl ⟨by rfl, fun w hSw => ?_⟩) (by assumption) ?_; rotate_left; (dsimp only at hSw; go_simp; try with_reducible rfl); simp only [Act.put, List.setIfInBounds_toArray, List.set_cons_zero, List.set_cons_succ]
    refine wpAnyH_take (i := 20) (v := ?_) rfl (by kernel_rfl) (by kernel_rfl) (by kernel_rfl) (fun _ _ _ h => h) (Or.inl ⟨by rfl, fun w hSw => ?_⟩) (by assumption) ?_; rotate_left; (dsimp only at hSw; go_simp; try with_reducible rfl); simp only [Act.put, List.setIfInBounds_toArray, List.set_cons_zero, List.set_cons_succ]
    refine wpAnyH_take (i := 21) (v := ?_) rfl (by kernel_rfl) (by kernel_rfl) (by kernel_rfl) (fun _ _ _ h => h) (Or.inl ⟨by rfl, fun w hSw => ?_⟩) (by assumption) ?_; rotate_left; (dsimp only at hSw; go_simp; try with_reducible rfl); simp only [Act.put, List.setIfInBounds_toArray, List.set_cons_zero, List.set_cons_succ]
    refine wpAnyH_take (i := 22) (v := ?_) rfl (by kernel_rfl) (by kernel_rfl) (by kernel_rfl) (fun _ _ _ h => h) (Or.inl ⟨by rfl, fun w hSw => ?_⟩) (by assumption) ?_; rotate_left; (dsimp only at hSw; go_simp; try with_reducible rfl); simp only [Act.put, List.setIfInBounds_toArray, List.set_cons_zero, List.set_cons_succ]
    refine wpAnyH_take (i := 23) (v := ?_) rfl (by kernel_rfl) (by kernel_rfl) (by kernel_rfl) (fun _ _ _ h => h) (Or.inl ⟨by rfl, fun w hSw => ?_⟩) (by assumption) ?_; rotate_left; (dsimp only at hSw; go_simp; try with_reducible rfl); simp only [Act.put, List.setIfInBounds_toArray, List.set_cons_zero, List.set_cons_succ]
    refine wpAnyH_take (i := 24) (v := ?_) rfl (by kernel_rfl) (by kernel_rfl) (by kernel_rfl) (fun _ _ _ h => h) (Or.inl ⟨by rfl, fun w hSw => ?_⟩) (by assumption) ?_; rotate_left; (dsimp only at hSw; go_simp; try with_reducible rfl); simp only [Act.put, List.setIfInBounds_toArray, List.set_cons_zero, List.set_cons_succ]
    refine wpAnyH_take (i := 25) (v := ?_) rfl (by kernel_rfl) (by kernel_rfl) (by kernel_rfl) (fun _ _ _ h => h) (Or.inl ⟨by rfl, fun w hSw => ?_⟩) (by assumption) ?_; rotate_left; (dsimp only at hSw; go_simp; try with_reducible rfl); simp only [Act.put, List.setIfInBounds_toArray, List.set_cons_zero, List.set_cons_succ]
    refine wpAnyH_take (i := 26) (v := ?_) rfl (by kernel_rfl) (by kernel_rfl) (by kernel_rfl) (fun _ _ _ h => h) (Or.inl ⟨by rfl, fun w hSw => ?_⟩) (by assumption) ?_; rotate_left; (dsimp only at hSw; go_simp; try with_reducible rfl); simp only [Act.put, List.setIfInBounds_toArray, List.set_cons_zero, List.set_cons_succ]
    refine wpAnyH_take (i := 27) (v := ?_) rfl (by kernel_rfl) (by kernel_rfl) (by kernel_rfl) (fun _ _ _ h => h) (Or.inl ⟨by rfl, fun w hSw => ?_⟩) (by assumption) ?_; rotate_left; (dsimp only at hSw; go_simp; try with_reducible rfl); simp only [Act.put, List.setIfInBounds_toArray, List.set_cons_zero, List.set_cons_succ]
    refine wpAnyH_take (i := 28) (v := ?_) rfl (by kernel_rfl) (by kernel_rfl) (by kernel_rfl) (fun _ _ _ h => h) (Or.inl ⟨by rfl, fun w hSw => ?_⟩) (by assumption) ?_; rotate_left; (dsimp only at hSw; go_simp; try with_reducible rfl); simp only [Act.put, List.setIfInBounds_toArray, List.set_cons_zero, List.set_cons_succ]
    refine wpAnyH_take (i := 29) (v := ?_) rfl (by kernel_rfl) (by kernel_rfl) (by kernel_rfl) (fun _ _ _ h => h) (Or.inl ⟨by rfl, fun w hSw => ?_⟩) (by assumption) ?_; rotate_left; (dsimp only at hSw; go_simp; try with_reducible rfl); simp only [Act.put, List.setIfInBounds_toArray, List.set_cons_zero, List.set_cons_succ]
    refine wpAnyH_ready (rs := [30]) (by kernel_rfl) (by simp) ?_
    refine AllReadyH.cons rfl (fun K hK => ?_) AllReadyH.nil
    go_simp
    refine hK.out _ _ ?_ (fun hHeld2 => ?_)
    · have hkk : Kept All A1 (A1.alloc (.cells #[.int .i64 0, .int .i64 0] 42)).drew := ((Kept.refl _ _).alloc _).drew
      exact ⟨hkk.cell d0 trivial, hkk.cell x0 trivial, hkk.cell fx trivial, hkk.cell fx0 trivial, hkk.cell fx1 trivial, hkk.cell o3 trivial⟩
    clear hK K hHeld
    simp only [List.setIfInBounds_toArray, List.set_cons_zero, List.set_cons_succ]
    refine wpAnyH_ready (rs := [31]) (by kernel_rfl) (by simp) ?_
    refine AllReadyH.cons rfl (fun K hK => ?_) AllReadyH.nil
    go_simp
    refine hK.out _ _ ?_ (fun hHeld => ?_)
    · have hkk : ∀ o, Kept All A1 (A1.alloc o).drew := fun o => ((Kept.refl _ _).alloc _).drew
      exact ⟨(hkk _).cell d0 trivial, (hkk _).cell x0 trivial, (hkk _).cell fx trivial, (hkk _).cell fx0 trivial, (hkk _).cell fx1 trivial, (hkk _).cell o3 trivial⟩
    clear hK K hHeld2
    refine wpAnyH_done (by kernel_rfl) ?_ _
    obtain ⟨L, hL⟩ : ∃ L, L = (canN h dy wt y).1 := ⟨_, rfl⟩
    obtain ⟨H, hH⟩ : ∃ H, H = (canN h dy wt y).2 := ⟨_, rfl⟩
    have hL2 : ∀ i : Decidable (0 < canLo (y.2.get dy).1 (y.1.get wt) (h.w wt).off), @ite Int (0 < canLo (y.2.get dy).1 (y.1.get wt) (h.w wt).off) i (canLo (y.2.get dy).1 (y.1.get wt) (h.w wt).off) 0 = L := fun i => by
      rw [hL, canN]; dsimp only; split <;> simp [*]
    have hH2 : ∀ i : Decidable (canHi (y.2.get dy).2 (y.1.get wt) (h.w wt).off < 120), @ite Int (canHi (y.2.get dy).2 (y.1.get wt) (h.w wt).off < 120) i (canHi (y.2.get dy).2 (y.1.get wt) (h.w wt).off) 120 = H := fun i => by
      rw [hH, canN]; dsimp only; split <;> simp [*]
    simp only [canLo, canHi] at hL2 hH2
    simp only [hL2, hH2]
    clear hL2 hH2
    have hk3 : Kept All A1 (A1.alloc (.cells #[.int .i64 L, .int .i64 H] 42)).drew := ((Kept.refl _ _).alloc _).drew
    have hcb : Blk (A1.alloc (.cells #[.int .i64 L, .int .i64 H] 42)).drew A1.heap.size 42 #[.int .i64 L, .int .i64 H] := (Blk.new _ _ _).drew
    generalize (A1.alloc (.cells #[.int .i64 L, .int .i64 H] 42)).drew = A2 at hk3 hcb ⊢
    clear d0 x0 fx fx0 fx1 o3 y0 hHeld
    have hmap := hy.filterMap (canO h dy wt)
    rw [List.filterMap_append] at hmap
    have y0 := (h2.kept hk3 trivial).at 0 rfl
    have g0 := hcb.at 0 rfl
    have g1 := hcb.at 1 rfl
    have lg := hcb.lt
    have hs3 := hk3.size
    have hj2 := hJ _ _ _ h1 h0 hk3.all
    by_cases hle : L ≤ H
    · have hc : canO h dy wt y = some (L, H) := by rw [canO, ← hL, ← hH, if_pos hle, hL, hH]
      have hone : List.filterMap (canO h dy wt) [y] = [(L, H)] := by simp [hc]
      rw [hone] at hmap
      obtain ⟨fn, tmps, assign, body, hyy, hR⟩ := hY _ (L, H) A2 hj2 (Nat.le_trans h0 hs3) hmap
      have hR' : RoundIn (Fence.wide.inRound l') 0 Try.prog l fn tmps assign body A2 _ := hR
      clear hL hH
      gi_wp2_with fail
      refine ⟨rfl, hR'.mono ?_⟩
      have hfin : ∀ B, Kept (fun k => (k < base ∨ k = bh ∨ k = bw ∨ k = bd ∨ k = bc) ∨ W.heap.size ≤ k) A2 B → Kept (fun k => (k < base ∨ k = W.heap.size + 2) ∨ w2.heap.size ≤ k) A1 B := fun B hk4 => hk3.all.trans (hk4.mono fun k hk hk' => by omega)
      have happ : List.filterMap (canO h dy wt) (pre ++ [y]) = List.filterMap (canO h dy wt) pre ++ [(L, H)] := by rw [List.filterMap_append, hone]
      rintro e B (⟨rfl, hj, hk4⟩ | ⟨rfl, hj, hk4⟩)
      · gi_wp2_with fail
        refine ⟨hfin B hk4, ?_, by rw [happ]; exact hj, (h2.kept hk3 trivial).kept hk4 (by omega), (h3.kept hk3 trivial).kept hk4 (by omega), (h4.kept hk3 trivial).kept hk4 (by omega), (h5.kept hk3 trivial).kept hk4 (by omega)⟩
        have := hk4.size; omega
      · gi_wp2_with fail
        refine ⟨hfin B hk4, rfl, ?_, by rw [happ]; exact hj⟩
        have := hk4.size; omega
    · have hc : canO h dy wt y = none := by rw [canO, ← hL, ← hH, if_neg hle]
      have hone : List.filterMap (canO h dy wt) [y] = [] := by simp [hc]
      have hle' : (decide (L ≤ H)) = false := by simpa using hle
      clear hL hH
      gi_wp2_with fail
      refine ⟨fun _ hh => (by cases hh), ?_⟩
      gi_wp2_with fail
      refine ⟨hk3.all, Nat.le_trans h0 hs3, ?_, h2.kept hk3 trivial, h3.kept hk3 trivial, h4.kept hk3 trivial, h5.kept hk3 trivial⟩
      rw [List.filterMap_append, hone, List.append_nil]
      exact hj2
  case done =>
    rintro A hA how ⟨h0, h1, -⟩ hD
    gi_wp2_with fail
    refine leaves_one' hD (fun w' hk => ?_)
    refine ⟨.tuple #[], by simp [results, Try.results44, go_sem], ⟨_, rfl⟩, Nat.le_trans h0 hk.size, how.kept hk (by omega), .inl ?_⟩
    exact hJ _ _ _ h1 h0 (hk.mono fun k _ h => by omega)
  case stop =>
    rintro c pre A hA how hpre ⟨rfl, h0, h1⟩ hD
    gi_wp2_with fail
    refine leaves_one hD (fun w' hk => ?_)
    refine ⟨.tuple #[], by simp [results, Try.results44, go_sem], ⟨_, rfl⟩, Nat.le_trans h0 hk.size, how.kept hk (by omega), .inr ⟨_, hpre.filterMap _, hJx _ _ _ h1 h0 (hk.mono fun k _ h => by omega)⟩⟩
end
end Go.Proofs.Ytiajiahfmfckjaa
