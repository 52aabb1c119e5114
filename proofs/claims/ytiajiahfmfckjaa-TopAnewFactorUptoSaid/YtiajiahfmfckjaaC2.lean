/- The walks of package factor's flaws, and of what finds the first error of a list. -/
import Derived.Test.YtiajiahfmfckjaaC1
import Derived.StillTailTactics
namespace Go.Proofs.Ytiajiahfmfckjaa
open Go.RowKit
set_option maxRecDepth 10000

abbrev watV (x : Wat) : Value := .agg #[.string x.name, .int .i64 x.lo, .int .i64 x.hi, .int .i64 x.off]

theorem flaw1_any (x : Wat) (B : Value) (w : World) (hs : x.name.size ≤ 9223372036854775807) :
    Calls Try.prog 61 #[watV x, B] w fun e w' => e = .returned (.bool (!nameOK x.name)) ∧ Kept All w w' := by
  go_enter Try.func61, Try.ntmps61
  have hk : Kept All w (w.alloc (.cells #[.string x.name, .int .i64 x.lo, .int .i64 x.hi, .int .i64 x.off] 64)) := (Kept.refl _ _).alloc _
  go_wp2_with (go_at_call 62; refine (name_any _ _ hs).mono ?_; rintro e w' ⟨rfl, hk'⟩)
  go_ret
  exact ⟨rfl, hk.trans hk'⟩

theorem eqName_any (x : Wat) (b : Nat) (s : ByteArray) (w : World) (hb : w.cell? ⟨b, 0, none⟩ = some (.string s)) :
    Calls Try.prog 65 #[watV x, .pointer (some ⟨b, 0, none⟩)] w fun e w' => e = .returned (.bool (x.name.toList == s.toList)) ∧ Kept All w w' := by
  have hk : Kept All w (w.alloc (.cells #[.string x.name, .int .i64 x.lo, .int .i64 x.hi, .int .i64 x.off] 64)) := (Kept.refl _ _).alloc _
  have hb2 := hk.cell hb trivial
  go_enter Try.func65, Try.ntmps65
  go_wp2
  go_ret
  exact ⟨rfl, hk⟩

/-- the first n observers of h lie from A on -/
def WatsN (w : World) (A : Option Addr) (h : House) (n : Nat) : Prop :=
  0 < n → ∃ b off, A = some ⟨b, off, none⟩ ∧ ∀ i, i < n →
    w.cell? ⟨b, off + i * 4, none⟩ = some (.string (h.w i).name) ∧ w.cell? ⟨b, off + i * 4 + 1, none⟩ = some (.int .i64 (h.w i).lo) ∧
    w.cell? ⟨b, off + i * 4 + 2, none⟩ = some (.int .i64 (h.w i).hi) ∧ w.cell? ⟨b, off + i * 4 + 3, none⟩ = some (.int .i64 (h.w i).off)
theorem WatsN.kept {S : Nat → Prop} {w w' : World} {A : Option Addr} {n : Nat} {h : House} (hh : WatsN w A h n) (hk : Kept S w w') (hS : ∀ k, k < w.heap.size → S k) : WatsN w' A h n := fun hn => by
  obtain ⟨b, off, hA, hc⟩ := hh hn
  refine ⟨b, off, hA, fun i hi => ?_⟩
  obtain ⟨h1, h2, h3, h4⟩ := hc i hi
  exact ⟨hk.cell h1 (hS _ (lt_of_cell h1)), hk.cell h2 (hS _ (lt_of_cell h2)), hk.cell h3 (hS _ (lt_of_cell h3)), hk.cell h4 (hS _ (lt_of_cell h4))⟩
theorem WatsN.mono {w : World} {A : Option Addr} {n m : Nat} {h : House} (hh : WatsN w A h n) (hm : m ≤ n) : WatsN w A h m := fun hn => by
  obtain ⟨b, off, hA, hc⟩ := hh (by omega)
  exact ⟨b, off, hA, fun i hi => hc i (by omega)⟩

theorem indexW_any (A : Option Addr) (n c : Nat) (h : House) (s : ByteArray) (b : Nat) (w : World) (hn : n ≤ 1000000000000000000) (hr : WatsN w A h n) (h1 : w.cell? ⟨b,0,none⟩ = some (.string s)) :
    Calls Try.prog 78 #[.slice A n c, .func (.func 65) #[] #[.pointer (some ⟨b,0,none⟩)]] w fun e w' =>
      ∃ i, e = .returned (.int .i64 i) ∧ Kept All w w' ∧ decide (0 ≤ i) = named h s n := by
  go_enter Try.func78, Try.ntmps78
  go_wp2
  go_loopw [8] (fun i wr => ∃ k : Nat, k ≤ n ∧ i = .int .i64 k ∧ Hid (∀ j, j < k → ((h.w j).name.toList == s.toList) = false) ∧ Kept All w wr) (fun i _ => n - (intOf i).toNat)
  case atStart => exact ⟨0, Nat.zero_le _, rfl, fun j h => by omega, Kept.refl _ _⟩
  case round =>
    obtain ⟨k, hk, rfl, hall, hkw⟩ := hrel
    by_cases hlt : k < n
    · obtain ⟨b1, off, rfl, hc⟩ := (hr.kept hkw (fun _ _ => trivial)) (by omega)
      obtain ⟨c1, c2, c3, c4⟩ := hc k hlt
      have hb1 := hkw.cell h1 trivial
      clear hc hr h1
      cases hb : (h.w k).name.toList == s.toList with
      | true =>
        go_wp2_with (go_at_call 65; refine (eqName_any (h.w k) b s _ hb1).mono ?_; rintro e w' ⟨rfl, hk'⟩)
        go_ret
        exact ⟨k, rfl, hkw.trans hk', by rw [named_true hb hlt]; simp⟩
      | false =>
        go_wp2_with (go_at_call 65; refine (eqName_any (h.w k) b s _ hb1).mono ?_; rintro e w' ⟨rfl, hk'⟩)
        go_roundw
        case rel =>
          refine ⟨k + 1, by omega, by go_num, fun j hj => ?_, hkw.trans hk'⟩
          by_cases e : j = k
          · subst e; exact hb
          · exact hall.out j (by omega)
        case measure => simp [intOf]; omega
    · go_wp2
      go_ret
      exact ⟨-1, rfl, hkw, by rw [named_false (fun j hj => hall.out j (by omega))]; rfl⟩

theorem containsW_any (A : Option Addr) (n c : Nat) (h : House) (s : ByteArray) (b : Nat) (w : World) (hn : n ≤ 1000000000000000000) (hr : WatsN w A h n) (h1 : w.cell? ⟨b,0,none⟩ = some (.string s)) :
    Calls Try.prog 64 #[.slice A n c, .func (.func 65) #[] #[.pointer (some ⟨b,0,none⟩)]] w fun e w' => e = .returned (.bool (named h s n)) ∧ Kept All w w' := by
  go_enter Try.func64, Try.ntmps64
  go_wp2_with (go_at_call 78; refine (indexW_any A n c h s b _ hn hr h1).mono ?_; rintro e w' ⟨i, rfl, hk, hi'⟩)
  go_ret
  exact ⟨by rw [← hi']; rfl, hk⟩

theorem flaw2_any (x : Wat) (A : Option Addr) (n c : Nat) (h : House) (w : World) (hn : n ≤ 1000000000000000000) (hr : WatsN w A h n) :
    Calls Try.prog 63 #[watV x, .slice A n c] w fun e w' => e = .returned (.bool (named h x.name n)) ∧ Kept All w w' := by
  go_enter Try.func63, Try.ntmps63
  have hk : Kept All w (w.alloc (.cells #[.string x.name, .int .i64 x.lo, .int .i64 x.hi, .int .i64 x.off] 64)) := (Kept.refl _ _).alloc _
  have hr2 := hr.kept hk (fun _ _ => trivial)
  go_wp2_with (go_at_call 64; refine (containsW_any A n c h x.name _ _ hn hr2 (by simp [go_sem])).mono ?_; rintro e w' ⟨rfl, hk'⟩)
  go_ret
  exact ⟨rfl, hk.trans hk'⟩

theorem any_two (lo hi x y : Int) : anyOut lo hi (ix [x, y]) 2 = (outB lo hi x || outB lo hi y) := by simp [anyOut, ix]
theorem any_one (lo hi x : Int) : anyOut lo hi (fun _ => x) 1 = outB lo hi x := by simp [anyOut]

theorem flaw3_any (x : Wat) (B : Value) (w : World) :
    Calls Try.prog 66 #[watV x, B] w fun e w' => e = .returned (.bool (outB 1 300 x.lo || outB 1 300 x.hi || outB 0 9 x.off)) ∧ Kept All w w' := by
  have hk : Kept All w ((w.alloc (.cells #[.string x.name, .int .i64 x.lo, .int .i64 x.hi, .int .i64 x.off] 64)).alloc (.cells #[.int .i64 x.lo, .int .i64 x.hi] 3)) := ((Kept.refl _ _).alloc _).alloc _
  rw [← any_two, ← any_one 0 9]
  cases hb : anyOut 1 300 (ix [x.lo, x.hi]) 2 with
  | true =>
    go_enter Try.func66, Try.ntmps66
    go_wp2_with (go_at_call 36; refine (off_any _ 2 _ _ _ _ _ (by omega) (by exact nums_two _ _ _ (by simp))).mono ?_; rintro e w' ⟨rfl, hk'⟩)
    go_ret
    exact ⟨rfl, hk.trans hk'⟩
  | false =>
    go_enter Try.func66, Try.ntmps66
    go_wp2_with fail
    refine (off_any _ 2 _ _ _ _ _ (by omega) (by exact nums_two _ _ _ (by simp))).mono ?_
    rintro e w' ⟨rfl, hk'⟩
    have h4 : w'.cell? ⟨w.heap.size, 3, none⟩ = some (.int .i64 x.off) := hk'.cell (by simp [go_sem]) trivial
    go_wp2_with fail
    refine (off_any _ 1 _ _ _ _ _ (by omega) (by exact nums_one _ _ (by simp))).mono ?_
    rintro e w'' ⟨rfl, hk''⟩
    go_wp2_with fail
    go_ret
    exact ⟨rfl, ((hk.trans hk').alloc _).trans hk''⟩

theorem flaw4_any (x : Wat) (B : Value) (w : World) :
    Calls Try.prog 67 #[watV x, B] w fun e w' => e = .returned (.bool (outB 0 6 (wrap64 (x.hi - x.lo)))) ∧ Kept All w w' := by
  have hk : Kept All w (w.alloc (.cells #[.string x.name, .int .i64 x.lo, .int .i64 x.hi, .int .i64 x.off] 64)) := (Kept.refl _ _).alloc _
  rw [← any_one 0 6]
  go_enter Try.func67, Try.ntmps67
  go_wp2_with (go_at_call 36; refine (off_any _ 1 _ _ _ _ _ (by omega) (by exact nums_one _ _ (by simp))).mono ?_; rintro e w'' ⟨rfl, hk''⟩)
  go_ret
  exact ⟨rfl, (hk.alloc _).trans hk''⟩

theorem flaws_any (w : World) :
    Calls Try.prog 33 #[] w fun e w' => e = .returned (.slice (some ⟨w.heap.size, 0, none⟩) 4 4) ∧ Kept All w w' ∧
      Blk w' w.heap.size 69 #[.int .i64 6, .func (.func 61) #[] #[], .int .i64 5, .func (.func 63) #[] #[], .int .i64 7, .func (.func 66) #[] #[], .int .i64 2, .func (.func 67) #[] #[]] := by
  go_enter Try.func33, Try.ntmps33
  go_wp2
  go_ret
  exact ⟨rfl, (Kept.refl _ _).alloc _, Blk.new _ _ _⟩

/-- the days of h lie from D on -/
def DaysN (w : World) (D : Option Addr) (h : House) : Prop :=
  0 < h.days.length → ∃ b off, D = some ⟨b, off, none⟩ ∧ ∀ i, i < h.days.length → ∃ A c, w.cell? ⟨b, off + i, none⟩ = some (.slice A (h.d i).length c) ∧ Nums w A (h.d i).length (ix (h.d i)) ∧ (h.d i).length ≤ 1000000000000000000
theorem DaysN.kept {S : Nat → Prop} {w w' : World} {D : Option Addr} {h : House} (hh : DaysN w D h) (hk : Kept S w w') (hS : ∀ k, k < w.heap.size → S k) : DaysN w' D h := fun hn => by
  obtain ⟨b, off, hA, hc⟩ := hh hn
  refine ⟨b, off, hA, fun i hi => ?_⟩
  obtain ⟨A, c, h1, h2, h3⟩ := hc i hi
  exact ⟨A, c, hk.cell h1 (hS _ (lt_of_cell h1)), h2.kept hk hS, h3⟩

/-- the house's two slices lie in a box -/
structure HBox (w : World) (b : Nat) (h : House) (A : Option Addr) (c : Nat) (D : Option Addr) (d : Nat) : Prop where
  wcell : w.cell? ⟨b, 0, none⟩ = some (.slice A h.ws.length c)
  dcell : w.cell? ⟨b, 1, none⟩ = some (.slice D h.days.length d)
  wats : WatsN w A h h.ws.length
  nw : h.ws.length ≤ 1000000000000000000
  nd : h.days.length ≤ 1000000000000000000
  cw : h.ws.length ≤ c
  names : ∀ i, (h.w i).name.size ≤ 1000000000000000000
  days : DaysN w D h
theorem HBox.kept {S : Nat → Prop} {w w' : World} {b : Nat} {h : House} {A : Option Addr} {c : Nat} {D : Option Addr} {d : Nat} (hb : HBox w b h A c D d) (hk : Kept S w w') (hS : ∀ k, k < w.heap.size → S k) : HBox w' b h A c D d :=
  ⟨hk.cell hb.wcell (hS _ (lt_of_cell hb.wcell)), hk.cell hb.dcell (hS _ (lt_of_cell hb.dcell)), hb.wats.kept hk hS, hb.nw, hb.nd, hb.cw, hb.names, hb.days.kept hk hS⟩

set_option maxHeartbeats 1000000 in
theorem watErr_any (b : Nat) (h : House) (A : Option Addr) (c : Nat) (D : Option Addr) (d : Nat) (i : Nat) (w : World) (hb : HBox w b h A c D d) (hi : i < h.ws.length) :
    Calls Try.prog 32 #[.int .i64 i, watV (h.w i), .pointer (some ⟨b, 0, none⟩)] w fun e w' => e = .returned (.int .i64 (watErr h i)) ∧ Kept All w w' := by
  have hn := hb.nw
  have hw := hb.wcell
  have hcw := hb.cw
  have hx := hb.names i
  have hk : Kept All w (w.alloc (.cells #[.string (h.w i).name, .int .i64 (h.w i).lo, .int .i64 (h.w i).hi, .int .i64 (h.w i).off] 64)) := (Kept.refl _ _).alloc _
  have hic : i ≤ c := by omega
  obtain ⟨ab, ao, rfl, -⟩ := hb.wats (by omega)
  have hbox := Blk.new w 64 #[.string (h.w i).name, .int .i64 (h.w i).lo, .int .i64 (h.w i).hi, .int .i64 (h.w i).off]
  go_enter Try.func32, Try.ntmps32
  go_wp2_with (go_at_call 33; refine (flaws_any _).mono ?_; rintro e w1 ⟨rfl, hk1, hfl⟩)
  rw [World.size_alloc] at hfl
  replace hbox := hbox.kept hk1 trivial
  replace hk1 := hk.trans hk1
  have hwats := (hb.wats.mono (Nat.le_of_lt hi)).kept hk1 (fun _ _ => trivial)
  replace hw := hk1.cell hw trivial
  clear hk
  go_loopw [10] (fun k wr => ∃ j : Nat, j ≤ 4 ∧ k = .int .i64 j ∧ Hid (∀ q, q < j → flaw h i q = false) ∧ Kept All w1 wr) (fun k _ => 4 - (intOf k).toNat)
  case atStart => exact ⟨0, by omega, rfl, fun q hq => by omega, Kept.refl _ _⟩
  case round =>
    obtain ⟨j, hj, rfl, hall, hkw⟩ := hrel
    replace hbox := hbox.kept hkw trivial
    replace hfl := hfl.kept hkw trivial
    replace hw := hkw.cell hw trivial
    replace hwats := hwats.kept hkw (fun _ _ => trivial)
    have hc1 := hbox.at 0 rfl
    have hc2 := hbox.at 1 rfl
    have hc3 := hbox.at 2 rfl
    have hc4 := hbox.at 3 rfl
    have hl1 := hbox.lt
    have hl2 := hfl.lt
    have hl3 : b < wr.heap.size := lt_of_cell hw
    obtain rfl | rfl | rfl | rfl | rfl : j = 0 ∨ j = 1 ∨ j = 2 ∨ j = 3 ∨ j = 4 := by omega
    · have hx0 := hfl.at 0 rfl
      have hx1 := hfl.at 1 rfl
      go_wp2_with fail
      refine wp_tail 7 (by kernel_rfl) (by kernel_rfl) ?_
      simp only [List.take_succ_cons, List.take_zero, List.drop_succ_cons, List.drop_zero]
      repeat still_step
      refine wpStill_nil ?_
      go_wp2_with fail
      refine (flaw1_any (h.w i) _ _ (by omega)).mono ?_
      rintro e w3 ⟨rfl, hk3⟩
      have hcc : w3.cell? ⟨wr.heap.size, 0, none⟩ = some (.int .i64 6) := hk3.cell (by simp [go_sem]) trivial
      have hk4 : Kept All wr w3 := (((Kept.refl _ _).alloc _).drew).trans hk3
      have hfold : (!nameOK (h.w i).name) = flaw h i 0 := rfl
      rw [hfold]
      clear hfold
      cases hq : flaw h i 0 with
      | true =>
        go_wp2_with fail
        go_ret
        exact ⟨ret_i64 (by simp [watErr, hq]), (hk1.trans hkw).trans hk4⟩
      | false =>
        go_wp2_with fail
        go_roundw
        case rel =>
          refine ⟨1, by omega, by go_num, fun r hr => ?_, hkw.trans hk4⟩
          by_cases e : r = 0
          · subst e; exact hq
          · exact hall.out r (by omega)
        case measure => simp [intOf]
    · have hx0 := hfl.at 2 rfl
      have hx1 := hfl.at 3 rfl
      go_wp2_with fail
      refine wp_tail 7 (by kernel_rfl) (by kernel_rfl) ?_
      simp only [List.take_succ_cons, List.take_zero, List.drop_succ_cons, List.drop_zero]
      repeat still_step
      refine wpStill_nil ?_
      go_wp2_with fail
      refine (flaw2_any (h.w i) _ i _ h _ (by omega) (hwats.kept (((Kept.refl All wr).alloc _).drew) (fun _ _ => trivial))).mono ?_
      rintro e w3 ⟨rfl, hk3⟩
      have hcc : w3.cell? ⟨wr.heap.size, 0, none⟩ = some (.int .i64 5) := hk3.cell (by simp [go_sem]) trivial
      have hk4 : Kept All wr w3 := (((Kept.refl _ _).alloc _).drew).trans hk3
      have hfold : (named h (h.w i).name i) = flaw h i 1 := rfl
      rw [hfold]
      clear hfold
      cases hq : flaw h i 1 with
      | true =>
        have p0 : flaw h i 0 = false := hall.out 0 (by omega)
        go_wp2_with fail
        go_ret
        exact ⟨ret_i64 (by simp [watErr, hq, p0]), (hk1.trans hkw).trans hk4⟩
      | false =>
        go_wp2_with fail
        go_roundw
        case rel =>
          refine ⟨2, by omega, by go_num, fun r hr => ?_, hkw.trans hk4⟩
          by_cases e : r = 1
          · subst e; exact hq
          · exact hall.out r (by omega)
        case measure => simp [intOf]
    · have hx0 := hfl.at 4 rfl
      have hx1 := hfl.at 5 rfl
      go_wp2_with fail
      refine wp_tail 7 (by kernel_rfl) (by kernel_rfl) ?_
      simp only [List.take_succ_cons, List.take_zero, List.drop_succ_cons, List.drop_zero]
      repeat still_step
      refine wpStill_nil ?_
      go_wp2_with fail
      refine (flaw3_any (h.w i) _ _).mono ?_
      rintro e w3 ⟨rfl, hk3⟩
      have hcc : w3.cell? ⟨wr.heap.size, 0, none⟩ = some (.int .i64 7) := hk3.cell (by simp [go_sem]) trivial
      have hk4 : Kept All wr w3 := (((Kept.refl _ _).alloc _).drew).trans hk3
      have hfold : (outB 1 300 (h.w i).lo || outB 1 300 (h.w i).hi || outB 0 9 (h.w i).off) = flaw h i 2 := rfl
      rw [hfold]
      clear hfold
      cases hq : flaw h i 2 with
      | true =>
        have p0 : flaw h i 0 = false := hall.out 0 (by omega)
        have p1 : flaw h i 1 = false := hall.out 1 (by omega)
        go_wp2_with fail
        go_ret
        exact ⟨ret_i64 (by simp [watErr, hq, p0, p1]), (hk1.trans hkw).trans hk4⟩
      | false =>
        go_wp2_with fail
        go_roundw
        case rel =>
          refine ⟨3, by omega, by go_num, fun r hr => ?_, hkw.trans hk4⟩
          by_cases e : r = 2
          · subst e; exact hq
          · exact hall.out r (by omega)
        case measure => simp [intOf]
    · have hx0 := hfl.at 6 rfl
      have hx1 := hfl.at 7 rfl
      go_wp2_with fail
      refine wp_tail 7 (by kernel_rfl) (by kernel_rfl) ?_
      simp only [List.take_succ_cons, List.take_zero, List.drop_succ_cons, List.drop_zero]
      repeat still_step
      refine wpStill_nil ?_
      go_wp2_with fail
      refine (flaw4_any (h.w i) _ _).mono ?_
      rintro e w3 ⟨rfl, hk3⟩
      have hcc : w3.cell? ⟨wr.heap.size, 0, none⟩ = some (.int .i64 2) := hk3.cell (by simp [go_sem]) trivial
      have hk4 : Kept All wr w3 := (((Kept.refl _ _).alloc _).drew).trans hk3
      have hfold : (outB 0 6 (wrap64 ((h.w i).hi - (h.w i).lo))) = flaw h i 3 := rfl
      rw [hfold]
      clear hfold
      cases hq : flaw h i 3 with
      | true =>
        have p0 : flaw h i 0 = false := hall.out 0 (by omega)
        have p1 : flaw h i 1 = false := hall.out 1 (by omega)
        have p2 : flaw h i 2 = false := hall.out 2 (by omega)
        go_wp2_with fail
        go_ret
        exact ⟨ret_i64 (by simp [watErr, hq, p0, p1, p2]), (hk1.trans hkw).trans hk4⟩
      | false =>
        go_wp2_with fail
        go_roundw
        case rel =>
          refine ⟨4, by omega, by go_num, fun r hr => ?_, hkw.trans hk4⟩
          by_cases e : r = 3
          · subst e; exact hq
          · exact hall.out r (by omega)
        case measure => simp [intOf]
    · go_wp2_with fail
      go_ret
      exact ⟨ret_i64 (by
        have p0 : flaw h i 0 = false := hall.out 0 (by omega)
        have p1 : flaw h i 1 = false := hall.out 1 (by omega)
        have p2 : flaw h i 2 = false := hall.out 2 (by omega)
        have p3 : flaw h i 3 = false := hall.out 3 (by omega)
        simp [watErr, p0, p1, p2, p3]), hk1.trans hkw⟩
end Go.Proofs.Ytiajiahfmfckjaa
