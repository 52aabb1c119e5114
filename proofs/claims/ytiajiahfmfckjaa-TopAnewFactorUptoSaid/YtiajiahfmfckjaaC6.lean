/- The walk of package factor's truths: the closure's last level, where the numbers are not known yet. -/
import Derived.Test.YtiajiahfmfckjaaC5
import Derived.Deep.DeepCutAuto
import Derived.Deep.RegionHeld3
import Derived.Deep.CutBlock
namespace Go.Proofs.Ytiajiahfmfckjaa
open Go.RowKit
set_option maxRecDepth 10000
section
variable {base n1 hb km : Nat} {h : House} {but : Int} {A : Option Addr} {c : Nat} {D : Option Addr} {d l bs bf bn bd bY : Nat} {xs : List (F3 × N4)} {J Jx : List (F3 × N4) → World → Prop}

theorem nC_set (n : N4) (j : Nat) (x y : Int) (hj : j < 4) : ((nC n).setIfInBounds (j * 2) (.int .i64 x)).setIfInBounds (j * 2 + 1) (.int .i64 y) = nC (n.set j (x, y)) := by
  obtain rfl | rfl | rfl | rfl : j = 0 ∨ j = 1 ∨ j = 2 ∨ j = 3 := by omega
  all_goals rfl
theorem N4.get_set (n : N4) (j : Nat) (s : Int × Int) (hj : j < 4) : (n.set j s).get j = s := by
  obtain rfl | rfl | rfl | rfl : j = 0 ∨ j = 1 ∨ j = 2 ∨ j = 3 := by omega
  all_goals rfl

set_option maxHeartbeats 2000000 in
theorem leaf_fresh (hv : Valid h) (hbase : base ≤ n1) (hJ : ∀ pre A B, J pre A → n1 ≤ A.heap.size → Kept (fun k => k < n1 ∧ ¬ k = km) A B → J pre B)
    (hY : ∀ pre x A, J pre A → n1 ≤ A.heap.size → (pre ++ [x]) <+: xs → YieldAt Fence.wide 0 Try.prog l (encT x) A fun e B =>
      (e = .returned (.bool true) ∧ J (pre ++ [x]) B ∧ Kept (fun k => (k < base ∨ k = bs) ∨ n1 ≤ k) A B) ∨ (e = .returned (.bool false) ∧ Jx (pre ++ [x]) B ∧ Kept (fun k => (k < base ∨ k = bs) ∨ n1 ≤ k) A B))
    (h1 : n1 ≤ bf) (h2 : n1 ≤ bn) (h3 : n1 ≤ bd) (h4 : n1 ≤ bY) (f : F3) (pre : List (F3 × N4)) (W : World) (hj : J pre W) (hn : n1 ≤ W.heap.size) (he : Env base W hb km h but A c D d l bs bf bn bd bY f)
    (hx : (pre ++ enum h but 0 f) <+: xs) (hlk : ∀ X : World, X.heap[km]? = W.heap[km]? → (Instr.lookup 110 (.map (some km)) (fV f) true).run Try.prog X = .ok (.tuple #[nV N4.zero, .bool false]) X) :
    Calls Try.prog 72 #[.int .i64 h.ws.length, ptr bs, ptr bf, ptr bn, ptr bd, ptr bY] W (NextPost base n1 hb km h but A c D d l bs bf bn bd bY xs J Jx 0 f pre W) := by
  have hnw := hv.nw
  have hnd := hv.nd
  have s0 := he.s.at 0 rfl
  have f0 := he.f.at 0 rfl
  have f1 := he.f.at 1 rfl
  have f2 := he.f.at 2 rfl
  have k0 := he.hp.blk.at 0 rfl
  have k1 := he.hp.blk.at 1 rfl
  have k3 := he.hp.blk.at 3 rfl
  have ls := he.s.lt
  have lf := he.f.lt
  have ly := he.y.lt
  have lh := he.hp.blk.lt
  have ln := he.n.lt
  have ld := he.d.lt
  have hlk1 : (Instr.lookup 110 (.map (some km)) (fV f) true).run Try.prog W.drew = .ok (.tuple #[nV N4.zero, .bool false]) W.drew := hlk W.drew rfl
  have hlk2 : ∀ o, (Instr.lookup 110 (.map (some km)) (fV f) true).run Try.prog (W.alloc o).drew = .ok (.tuple #[nV N4.zero, .bool false]) (W.alloc o).drew := fun o => hlk _ (Below.heap_alloc W o km he.hp.cache.lt)
  clear hlk
  go_enter Try.func72, Try.ntmps72
  go_wp2_with fail
  go_region
  go_upto_region 11 with (fail)
  obtain ⟨W1, hW1⟩ : ∃ W1, (W.alloc (.cells (nC N4.zero) 87)).drew = W1 := ⟨_, rfl⟩
  rw [hW1]
  have hk : Kept All W W1 := by rw [← hW1]; exact ((Kept.refl _ _).alloc _).drew
  have hN : Blk W1 W.heap.size 87 (nC N4.zero) := by rw [← hW1]; exact Blk.new _ _ _
  have hne1 : W.heap.size ≠ km := fun e => by have := he.hp.cache.lt; omega
  clear hW1 hlk1 hlk2
  have he1 := he.kept hk (fun _ _ => trivial) trivial trivial trivial trivial trivial
  have hj1 := hJ _ _ _ hj hn hk.all
  have hn1 : n1 ≤ W1.heap.size := Nat.le_trans hn hk.size
  clear s0 f0 f1 f2 k0 k1 k3
  go_upto_if 56 with (fail)
  go_cut [] (fun wx => Env base wx hb km h but A c D d l bs bf bn bd bY f ∧ Blk wx W.heap.size 87 (nC (numbersOf h but f)) ∧ J pre wx ∧ n1 ≤ wx.heap.size ∧ Kept (fun k => n1 ≤ k ∧ k ≠ bf) W wx)
  case first =>
    have s0 := he1.s.at 0 rfl
    have k0 := he1.hp.blk.at 0 rfl
    have k1 := he1.hp.blk.at 1 rfl
    go_wp2_with fail
    go_step3
    go_wp2_with fail
    go_step3
    go_upto_block 2 with (fail)
    go_cut [] (fun wx => Kept (fun k => k ≠ W.heap.size) W1 wx ∧ Blk wx W.heap.size 87 (nC (numbersOf h but f)))
    case first =>
      go_wp2_with fail
      go_loopw [63] (fun i wr => ∃ (j : Nat) (n : N4), j ≤ h.days.length ∧ i = .int .i64 j ∧ Kept (fun k => k ≠ W.heap.size) W1 wr ∧ Blk wr W.heap.size 87 (nC n) ∧ Hid (numGo h but f (4 - j) j n = numbersOf h but f)) (fun i _ => h.days.length - (intOf i).toNat)
      case atStart => exact ⟨0, N4.zero, by omega, rfl, Kept.refl _ _, hN, rfl⟩
      case round =>
        obtain ⟨j, n, hj, rfl, hkr, hNr, hgo⟩ := hrel
        have he2 := he1.kept hkr (fun k hk e => by omega) (by omega) (by omega) (by omega) (by omega) (by omega)
        have f0 := he2.f.at 0 rfl
        have f1 := he2.f.at 1 rfl
        have f2 := he2.f.at 2 rfl
        have d0 := he2.d.at 0 rfl
        by_cases hlt : j < h.days.length
        · have hj4 : (j : Int) < 4 := by omega
          have hj4n : j < 4 := by omega
          go_wp2_with fail
          refine (day_any base hb km h but A c D d j f _ he2.hp hv hlt).mono ?_
          rintro e w2 ⟨rfl, hk2⟩
          have hN2 := hNr.kept hk2 trivial
          have z0 := hN2.frozen (j * 2)
          have z1 := hN2.frozen (j * 2 + 1)
          have hj4c : j = 0 ∨ j = 1 ∨ j = 2 ∨ j = 3 := by omega
          have y0 : w2.cell? ⟨W.heap.size, j * 2, none⟩ = some (.int .i64 (n.get j).1) := by
            rcases hj4c with e | e | e | e <;> (rw [e]; exact hN2.at _ rfl)
          have y1 : w2.cell? ⟨W.heap.size, j * 2 + 1, none⟩ = some (.int .i64 (n.get j).2) := by
            rcases hj4c with e | e | e | e <;> (rw [e]; exact hN2.at _ rfl)
          have HC := Lib.hid hj4c
          clear hj4c
          go_wp2_with fail
          have hkS := (hkr.thenAll hk2)
          obtain ⟨W3, hW3⟩ : ∃ W3, (w2.setCell ⟨W.heap.size, j * 2, none⟩ (.int .i64 (dayN h but f j).1)).setCell ⟨W.heap.size, j * 2 + 1, none⟩ (.int .i64 (dayN h but f j).2) = W3 := ⟨_, rfl⟩
          have hk3 : Kept (fun k => k ≠ W.heap.size) W1 W3 := by rw [← hW3]; exact (hkS.setCell (fun _ h => h rfl) _).setCell (fun _ h => h rfl) _
          have hN3 : Blk W3 W.heap.size 87 (nC (n.set j (dayN h but f j))) := by rw [← hW3, ← nC_set _ _ _ _ hj4n]; exact (hN2.set _ _).set _ _
          rw [hW3]
          clear hW3 y0 y1 z0 z1 f0 f1 f2 d0
          have y0 : W3.cell? ⟨W.heap.size, j * 2, none⟩ = some (.int .i64 (dayN h but f j).1) := by
            rcases HC.out with e | e | e | e <;> (subst e; exact hN3.at _ rfl)
          have y1 : W3.cell? ⟨W.heap.size, j * 2 + 1, none⟩ = some (.int .i64 (dayN h but f j).2) := by
            rcases HC.out with e | e | e | e <;> (subst e; exact hN3.at _ rfl)
          go_quiet (fail)
          have hk4 : Kept All W3 (W3.drewN nq) := (Kept.refl _ _).drewN nq
          generalize W3.drewN nq = W4 at hk4 ⊢
          replace hk3 := hk3.thenAll hk4
          replace hN3 := hN3.kept hk4 trivial
          clear y0 y1
          have hstep : numbersOf h but f = if (dayN h but f j).2 < (dayN h but f j).1 then (n.set j (dayN h but f j)).set 0 (1, 0) else numGo h but f (4 - (j + 1)) (j + 1) (n.set j (dayN h but f j)) := by
            rw [← hgo.out, show 4 - j = (4 - (j + 1)) + 1 by omega, numGo, if_pos hlt]
          have HS := Lib.hid hstep
          clear hstep
          by_cases hlo : (dayN h but f j).2 < (dayN h but f j).1
          · have c0 := hN3.at 0 rfl
            have c1 := hN3.at 1 rfl
            have z0 := hN3.frozen 0
            have z1 := hN3.frozen 1
            go_wp2_with fail
            go_meet
            refine ⟨(hk3.setCell (fun _ h => h rfl) _).setCell (fun _ h => h rfl) _, ?_⟩
            rw [HS.out, if_pos hlo, ← nC_set _ 0 _ _ (by omega)]
            exact (hN3.set _ _).set _ _
          · go_wp2_with fail
            go_roundw
            case rel => exact ⟨j + 1, _, by omega, by go_num, hk3, hN3, by rw [HS.out, if_neg hlo]; rfl⟩
            case measure => simp [intOf]; omega
        · go_wp2_with fail
          go_meet
          refine ⟨hkr, ?_⟩
          have : numbersOf h but f = n := by
            rw [← hgo.out]
            cases hb : 4 - j with
            | zero => rfl
            | succ b => rw [numGo, if_neg hlt]
          rw [this]; exact hNr
    case rest =>
      obtain ⟨hk3, hN3⟩ := hcut
      have he3 := he1.kept hk3 (fun k hk e => by omega) (by omega) (by omega) (by omega) (by omega) (by omega)
      obtain ⟨o, hup, hcache⟩ := cache_update (w := wc.drew) keyOk84 Try.underlying110 (show Cache wc.drew km enc3 (GoodN h but) from he3.hp.cache) (f.a, f.b, f.c) (nV (numbersOf h but f)) rfl
      have s0 := he3.s.at 0 rfl
      have f0 := he3.f.at 0 rfl
      have f1 := he3.f.at 1 rfl
      have f2 := he3.f.at 2 rfl
      have k3 := he3.hp.blk.at 3 rfl
      have c0 := hN3.at 0 rfl
      have c1 := hN3.at 1 rfl
      have c2 := hN3.at 2 rfl
      have c3 := hN3.at 3 rfl
      have c4 := hN3.at 4 rfl
      have c5 := hN3.at 5 rfl
      have c6 := hN3.at 6 rfl
      have c7 := hN3.at 7 rfl
      go_wp2_with fail
      go_region
      go_wp2_with fail
      try rw [Exit.noGoto_normal]
      go_wp2_with fail
      go_meet
      obtain ⟨wd, hwd⟩ : ∃ wd, wc.drew.putObj km o = wd := ⟨_, rfl⟩
      have hk4 : Kept (fun k => k ≠ km) wc wd := by rw [← hwd]; exact (Kept.refl _ wc).drew.putObj (fun _ h => h rfl) _
      rw [hwd] at hcache ⊢
      have hb84 := he3.f
      have lt_km : km < n1 := Nat.lt_of_lt_of_le he3.hp.klt hbase
      have ne1 : ∀ {g t cs}, Blk wc g t cs → g ≠ km := fun hg e => by
        obtain ⟨es, ck, hh, _⟩ := he3.hp.cache
        subst e; unfold Blk at hg; rw [hh] at hg; cases hg
      have hjc : J pre wd := hJ _ _ _ hj1 hn1 ((hk3.mono fun k _ h => by omega).trans (hk4.mono fun k _ h => h.2))
      exact ⟨⟨⟨he3.hp.blk.kept hk4 (ne1 he3.hp.blk), hcache, he3.hp.inn.kept hk4 (fun k h e => by omega), he3.hp.hlt, he3.hp.klt, he3.hp.ne⟩, he3.s.kept hk4 (ne1 he3.s), he3.f.kept hk4 (ne1 he3.f), he3.n.kept hk4 (ne1 he3.n), he3.d.kept hk4 (ne1 he3.d), he3.y.kept hk4 (ne1 he3.y)⟩,
        hN3.kept hk4 (ne1 hN3), hjc, Nat.le_trans hn1 (Nat.le_trans hk3.size hk4.size), ⟨hk4.os.trans (hk3.os.trans hk.os), hk4.tape.trans (hk3.tape.trans hk.tape), hk4.output.trans (hk3.output.trans hk.output), Nat.le_trans hk.size (Nat.le_trans hk3.size hk4.size), fun k hlt hs => by
          have hkk := lt_km
          exact (hk4.block k (by have := hk.size; have := hk3.size; omega) (by omega)).trans ((hk3.block k (by have := hk.size; omega) (by omega)).trans (hk.block k hlt trivial))⟩⟩
  case rest =>
    obtain ⟨he2', hN, hj2', hn2', hkw⟩ := hcut
    clear he1 hj1 hn1 hk
    go_upto_region 20 with (fail)
    have hz := he2'.hp
    have s0 := he2'.s.at 0 rfl
    have f0 := he2'.f.at 0 rfl
    have f1 := he2'.f.at 1 rfl
    have f2 := he2'.f.at 2 rfl
    have y0 := he2'.y.at 0 rfl
    have k0 := he2'.hp.blk.at 0 rfl
    have k1 := he2'.hp.blk.at 1 rfl
    have m0 := hN.at 0 rfl
    have m1 := hN.at 1 rfl
    have m2 := hN.at 2 rfl
    have m3 := hN.at 3 rfl
    have m4 := hN.at 4 rfl
    have m5 := hN.at 5 rfl
    have m6 := hN.at 6 rfl
    have m7 := hN.at 7 rfl
    refine (wpIn_wide (n := 0)).1 ?_
    cases hd : dead h (numbersOf h but f) with
    | true =>
      have hen : enum h but 0 f = [] := by rw [enum, hd]; rfl
      simp only [dead, Bool.and_eq_true, decide_eq_true_eq, beq_iff_eq] at hd
      obtain ⟨d1, d2⟩ := hd
      have d3 : (numbersOf h but f).a.1 = 1 := by rw [d2]
      have d4 : (numbersOf h but f).a.2 = 0 := by rw [d2]
      have HE := Lib.hid hen
      clear d2 hen
      gi_wp2_with fail
      refine ⟨fun _ hh => (by cases hh), ?_⟩
      gi_wp2_with fail
      go_wp2_with fail
      go_ret
      exact ⟨hn2', .inl ⟨rfl, by rw [HE.out, List.append_nil]; exact hj2', hkw, f, fun _ _ _ => rfl, he2'⟩⟩
    | false =>
      have hen : enum h but 0 f = [(f, numbersOf h but f)] := by rw [enum, hd]; rfl
      have HE := Lib.hid hen
      rw [hen] at hx
      obtain ⟨N, hNN⟩ : ∃ N, numbersOf h but f = N := ⟨_, rfl⟩
      have hd' : ¬ (0 < h.days.length ∧ N.a.1 = 1 ∧ N.a.2 = 0) := by
        rintro ⟨d1, d2, d3⟩
        have : N.a = (1, 0) := Prod.ext d2 d3
        simp [dead, d1, hNN, this] at hd
      rw [hNN] at hN hen hx HE
      clear hen hd m0 m1 m2 m3 m4 m5 m6 m7
      obtain ⟨fn, tmps, assign, body, hy, hR⟩ := hY pre (f, N) wc hj2' hn2' hx
      clear hNN
      obtain ⟨⟨x1, x2⟩, ⟨x3, x4⟩, ⟨x5, x6⟩, ⟨x7, x8⟩⟩ := N
      have m0 := hN.at 0 rfl
      have m1 := hN.at 1 rfl
      have m2 := hN.at 2 rfl
      have m3 := hN.at 3 rfl
      have m4 := hN.at 4 rfl
      have m5 := hN.at 5 rfl
      have m6 := hN.at 6 rfl
      have m7 := hN.at 7 rfl
      dsimp only at m0 m1 m2 m3 m4 m5 m6 m7 hd'
      have HD := Lib.hid hd'
      clear hd'
      by_cases c2 : x1 = 1
      · subst c2
        gi_wp2_with fail
        all_goals first
          | (exfalso; exact HD.out ⟨by assumption, (by simp), by assumption⟩)
          | skip
        all_goals
          refine ⟨rfl, hR.mono ?_⟩
          rintro e W3 (⟨rfl, hj3, hk3⟩ | ⟨rfl, hj3, hk3⟩)
        all_goals
          have hn3 : n1 ≤ W3.heap.size := Nat.le_trans hn2' hk3.size
          have he3 := he2'.kept hk3 (fun _ h => .inl (.inl h)) (.inl (.inr rfl)) (.inr h1) (.inr h2) (.inr h3) (.inr h4)
          clear hy
          gi_wp2_with fail
          go_wp2_with fail
          go_ret
          first
            | exact ⟨hn3, .inl ⟨rfl, by rw [HE.out]; exact hj3, hkw.trans (hk3.mono fun k _ h => .inr h.1), f, fun _ _ _ => rfl, he3⟩⟩
            | exact ⟨hn3, .inr ⟨rfl, he3.hp.cache, _, hx, hj3⟩⟩
      · have c2' : (x1 == 1) = false := by simpa using c2
        clear c2
        gi_wp2_with fail
        all_goals
          refine ⟨rfl, hR.mono ?_⟩
          rintro e W3 (⟨rfl, hj3, hk3⟩ | ⟨rfl, hj3, hk3⟩)
        all_goals
          have hn3 : n1 ≤ W3.heap.size := Nat.le_trans hn2' hk3.size
          have he3 := he2'.kept hk3 (fun _ h => .inl (.inl h)) (.inl (.inr rfl)) (.inr h1) (.inr h2) (.inr h3) (.inr h4)
          clear hy
          gi_wp2_with fail
          go_wp2_with fail
          go_ret
          first
            | exact ⟨hn3, .inl ⟨rfl, by rw [HE.out]; exact hj3, hkw.trans (hk3.mono fun k _ h => .inr h.1), f, fun _ _ _ => rfl, he3⟩⟩
            | exact ⟨hn3, .inr ⟨rfl, he3.hp.cache, _, hx, hj3⟩⟩
end
end Go.Proofs.Ytiajiahfmfckjaa
