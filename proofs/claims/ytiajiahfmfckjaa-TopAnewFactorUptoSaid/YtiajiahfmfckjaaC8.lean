/- The walk of package factor's truths as an iterator, and of some. -/
import Derived.Test.YtiajiahfmfckjaaC7
import Derived.Shelf.Abstract
namespace Go.Proofs.Ytiajiahfmfckjaa
open Go.RowKit Go.Shelf
attribute [local go_sem] Oper.semAt_some
set_option maxRecDepth 10000
/-- the way out of a function with one mark -/
theorem leaves_one {fn : Func} {tmps : Array Value} {R : Ending → World → Prop} {Q : World} {D : Nat} (hD : Q.heap[D]? = some (.deferred (some [])))
    (h : ∀ w', Kept (fun k => k ≠ D) Q w' → ∃ v, (results fn tmps).run Try.prog w' = .ok v w' ∧ R (.returned v) w') :
    bodyPostM Fence.wide 0 Try.prog fn R .ret { tmps := tmps, defers := [{ target := .collected D, args := #[] }] } Q :=
  leaves_marks [D] Q (by simpa using hD) (by simp) (fun w' hk => h w' (hk.mono fun k _ hne => by simpa using hne))

theorem leaves_one' {fn : Func} {tmps : Array Value} {R : Ending → World → Prop} {Q : World} {D : Nat} (hD : Q.heap[D]? = some (.deferred (some [])))
    (h : ∀ w', Kept (fun k => k ≠ D) Q w' → ∃ v, (results fn tmps).run Try.prog w' = .ok v w' ∧ R (.returned v) w') :
    bodyPostM Fence.wide 0 Try.prog fn R .normal { tmps := tmps, defers := [{ target := .collected D, args := #[] }] } Q := leaves_one hD h

section
variable {base hb km : Nat} {h : House} {but : Int} {A : Option Addr} {c : Nat} {D : Option Addr} {d bs : Nat} {w : World}

set_option maxHeartbeats 1000000 in
theorem truths_iter (hv : Valid h) (hp : HP base w hb km h but A c D d) (hs : Blk w bs 74 #[ptr hb]) (hbase : base ≤ w.heap.size) :
    Iter Try.prog 70 #[ptr bs] encT (truths h but) (fun k => k = km) (fun k => k < base ∨ k = bs) (fun B => Cache B km enc3 (GoodN h but)) w := by
  intro l J Jx W hkW hJ hJx hY h0
  have hp' := hp.kept hkW (fun _ _ => trivial)
  have hs' := hs.kept hkW trivial
  have s0 := hs'.at 0 rfl
  have ls := hs'.lt
  obtain ⟨W5, hW5⟩ : ∃ W5, ((((W.alloc (.cells #[.func (.yield l) #[] #[]] 108)).alloc (.cells #[.func (.func 71) #[ptr hb] #[]] 109)).alloc (.cells #[.int .i64 0, .int .i64 0, .int .i64 0] 84)).alloc (.cells #[.func (.func 72) #[] #[ptr bs, ptr (W.heap.size + 2), ptr (W.heap.size + 3), ptr (W.heap.size + 1), ptr W.heap.size]] 94)) = W5 := ⟨_, rfl⟩
  have hk5 : Kept All W W5 := by rw [← hW5]; exact ((((Kept.refl _ _).alloc _).alloc _).alloc _).alloc _
  have hy : Blk W5 W.heap.size 108 #[.func (.yield l) #[] #[]] := by rw [← hW5]; exact (((Blk.new _ _ _).alloc _).alloc _).alloc _
  have hd : Blk W5 (W.heap.size + 1) 109 #[.func (.func 71) #[ptr hb] #[]] := by rw [← hW5]; exact (((Blk.new' _ _ (by simp))).alloc _).alloc _
  have hf : Blk W5 (W.heap.size + 2) 84 (fC ⟨0, 0, 0⟩) := by rw [← hW5]; exact (Blk.new' _ _ (by simp)).alloc _
  have hn : Blk W5 (W.heap.size + 3) 94 #[.func (.func 72) #[] #[ptr bs, ptr (W.heap.size + 2), ptr (W.heap.size + 3), ptr (W.heap.size + 1), ptr W.heap.size]] := by rw [← hW5]; exact Blk.new' _ _ (by simp)
  have n0 := hn.at 0 rfl
  have he : Env base W5 hb km h but A c D d l bs (W.heap.size + 2) (W.heap.size + 3) (W.heap.size + 1) W.heap.size ⟨0, 0, 0⟩ := ⟨hp'.kept hk5 (fun _ _ => trivial), hs'.kept hk5 trivial, hf, hn, hd, hy⟩
  have hj5 : J [] W5 := hJ _ _ _ h0 (Nat.le_refl _) hk5.all
  have hnx := next_any (n1 := W.heap.size) (xs := truths h but) (J := J) (Jx := Jx) (l := l) hv (Nat.le_trans hbase hkW.size) hJ hJx hY (by omega) (by omega) (by omega) (by omega) h.ws.length ⟨0, 0, 0⟩ [] W5 (Nat.le_refl _) hj5 hk5.size he (by rw [List.nil_append]; exact List.prefix_refl _)
  rw [Nat.sub_self] at hnx
  clear hJ hJx hY
  go_enter Try.func70, Try.ntmps70
  go_wp2_with fail
  refine hnx.mono ?_
  rintro e B ⟨hsz, (⟨rfl, hj, -, f', -, he2⟩ | ⟨rfl, hcc, q, hq, hj⟩)⟩
  · go_wp2_with fail
    go_end0
    exact ⟨⟨_, rfl⟩, hsz, he2.hp.cache, .inl (by simpa [truths] using hj)⟩
  · go_wp2_with fail
    go_end0
    exact ⟨⟨_, rfl⟩, hsz, hcc, .inr ⟨q, hq, hj⟩⟩

theorem truths_any (w : World) (hb : Nat) : Calls Try.prog 41 #[ptr hb] w fun e w' => e = .returned (.func (.func 70) #[] #[ptr w.heap.size]) ∧ w' = w.alloc (.cells #[ptr hb] 74) := by
  go_enter Try.func41, Try.ntmps41
  go_wp2
  go_ret
  exact ⟨rfl, rfl⟩

set_option maxHeartbeats 1000000 in
theorem some_any (hv : Valid h) (hp : HP base w hb km h but A c D d) (hbase : base ≤ w.heap.size) :
    Calls Try.prog 51 #[ptr hb] w fun e w' => e = .returned (.bool (!(truths h but).isEmpty)) ∧ w.heap.size ≤ w'.heap.size ∧ Kept (fun k => k < w.heap.size ∧ k ≠ km) w w' ∧ Cache w' km enc3 (GoodN h but) := by
  refine (callsIn_wide (n := 0)).1 (callsIn_of_wp_marks Try.func51 rfl trivial ?_)
  simp only [Try.ntmps51, List.size_toArray, List.length_cons, List.length_nil, Nat.reduceAdd, Nat.reduceSub, Array.replicate_succ, Array.replicate_zero, List.push_toArray, List.append_toArray, List.nil_append, List.cons_append]
  gi_wp2_with fail
  refine ⟨trivial, rfl, open_wide.calls ((truths_any _ _).mono ?_)⟩
  rintro e w1 ⟨rfl, rfl⟩
  gi_wp2_with fail
  obtain ⟨w1, hw1⟩ : ∃ w1, (w.alloc (.cells #[.bool false] 4)).alloc (.cells #[ptr hb] 74) = w1 := ⟨_, rfl⟩
  have hk1 : Kept All w w1 := by rw [← hw1]; exact ((Kept.refl _ _).alloc _).alloc _
  have hr1 : Blk w1 w.heap.size 4 #[.bool false] := by rw [← hw1]; exact (Blk.new _ _ _).alloc _
  have hs1 : Blk w1 (w.heap.size + 1) 74 #[ptr hb] := by rw [← hw1]; exact Blk.new' _ _ (by simp)
  have hz1 : w1.heap.size = w.heap.size + 2 := by rw [← hw1]; simp
  rw [hw1]
  clear hw1
  have hp1 := hp.kept hk1 (fun _ _ => trivial)
  have hkm := hp.klt
  refine wp_range (gf := 70) (caps := #[ptr (w.heap.size + 1)]) rfl (enters_of Try.func70 (by kernel_rfl) rfl) (truths_iter hv hp1 hs1 (by omega))
    (fun A B hc hk => hc.kept hk rfl) (fun _ => rfl) (fun k hk => by omega) (fun k hk => by omega)
    (fun pre W => pre = [] ∧ Blk W w.heap.size 4 #[.bool false] ∧ Kept (fun k => k < w.heap.size ∧ k ≠ km) w W)
    (fun c pre W => c = .ret ∧ pre ≠ [] ∧ Blk W w.heap.size 4 #[.bool true] ∧ Kept (fun k => k < w.heap.size ∧ k ≠ km) w W)
    ?_ ?_ ⟨rfl, hr1, hk1.all⟩ ?round ?done ?stop
  · rintro pre A B ⟨h1, h2, h3⟩ hA hk
    exact ⟨h1, h2.kept hk ⟨by omega, by omega⟩, h3.trans (hk.mono fun k _ h => ⟨by omega, h.2⟩)⟩
  · rintro c pre A B ⟨h0, h1, h2, h3⟩ hA hk
    exact ⟨h0, h1, h2.kept hk ⟨by omega, by omega⟩, h3.trans (hk.mono fun k _ h => ⟨by omega, h.2⟩)⟩
  case round =>
    rintro l pre x W hl hW hr hi hx
    gi_wp2
    refine ⟨Kept.refl _ _, ?_⟩
    rintro W' hk ⟨h1, h2, h3⟩
    have r0 := h2.at 0 rfl
    have z0 := h2.frozen 0
    gi_wp2_with fail
    exact ⟨(Kept.refl _ _).setCell (fun _ h => by simp at h; omega) _, rfl, by simp, h2.set 0 _, h3.setCell (fun h => by simp at h) _⟩
  case done =>
    rintro W hW how ⟨h1, h2, h3⟩ hD
    have r0 := h2.at 0 rfl
    have z0 := h2.frozen 0
    gi_wp2_with fail
    refine leaves_one ((Below.heap_setCell _ _ _ _ (by simp; omega)).trans hD) (fun w' hk => ?_)
    have h4 := (h2.set 0 (.bool false)).kept hk (by omega)
    have r1 := h4.at 0 rfl
    refine ⟨.bool false, by simp [results, Try.results51, go_sem, r1], ?_, ?_, ?_, ?_⟩
    · rw [h1]; rfl
    · have := hk.size; have := h3.size; simp at *; omega
    · exact (h3.setCell (fun h => by simp at h) _).trans (hk.mono fun k _ h => by omega)
    · exact (how.kept ((Kept.refl (fun k => k = km) _).setCell (fun _ h => by simp at h; omega) _) rfl).kept hk (by omega)
  case stop =>
    rintro c pre W hW how hpre ⟨rfl, h1, h2, h3⟩ hD
    have r0 := h2.at 0 rfl
    gi_wp2_with fail
    refine leaves_one hD (fun w' hk => ?_)
    have h4 := h2.kept hk (by omega)
    have r1 := h4.at 0 rfl
    refine ⟨.bool true, by simp [results, Try.results51, go_sem, r1], ?_, ?_, ?_, ?_⟩
    · have : (truths h but).isEmpty = false := by
        cases he : truths h but with
        | nil => rw [he] at hpre; exact absurd (List.prefix_nil.1 hpre) h1
        | cons _ _ => rfl
      rw [this]; rfl
    · have := hk.size; have := h3.size; omega
    · exact h3.trans (hk.mono fun k _ h => by omega)
    · exact how.kept hk (by omega)
end
end Go.Proofs.Ytiajiahfmfckjaa
