/- The walks of package factor's Check. -/
import Derived.Test.YtiajiahfmfckjaaC2
namespace Go.Proofs.Ytiajiahfmfckjaa
open Go.RowKit
set_option maxRecDepth 10000

set_option maxHeartbeats 400000 in
theorem failW_any (b : Nat) (h : House) (A : Option Addr) (c : Nat) (D : Option Addr) (d : Nat) (w : World) (hb : HBox w b h A c D d) :
    Calls Try.prog 31 #[.slice A h.ws.length c, .int .i64 3, .func (.func 32) #[] #[.pointer (some ⟨b, 0, none⟩)]] w fun e w' =>
      e = .returned (.tuple #[.int .i64 (failErr (watErr h) h.ws.length 3).1, .int .i64 (failErr (watErr h) h.ws.length 3).2]) ∧ Kept All w w' := by
  have hn := hb.nw
  by_cases h3 : 3 < h.ws.length
  · go_enter Try.func31, Try.ntmps31
    go_wp2
    go_ret2
    exact ⟨by simp [failErr, h3], Kept.refl _ _⟩
  · go_enter Try.func31, Try.ntmps31
    go_wp2
    go_loopw [17] (fun k wr => ∃ j : Nat, j ≤ h.ws.length ∧ k = .int .i64 j ∧ Hid (∀ q, q < j → watErr h q = 0) ∧ Kept All w wr) (fun k _ => h.ws.length - (intOf k).toNat)
    case atStart => exact ⟨0, by omega, rfl, fun q hq => by omega, Kept.refl _ _⟩
    case round =>
      obtain ⟨j, hj, rfl, hall, hkw⟩ := hrel
      by_cases hlt : j < h.ws.length
      · have hb' := hb.kept hkw (fun _ _ => trivial)
        obtain ⟨ab, ao, rfl, hc⟩ := hb'.wats (by omega)
        obtain ⟨c1, c2, c3, c4⟩ := hc j hlt
        clear hc
        have hk1 := hkw.alloc (.cells #[.string (h.w j).name, .int .i64 (h.w j).lo, .int .i64 (h.w j).hi, .int .i64 (h.w j).off] 64)
        by_cases hz : watErr h j = 0
        · go_wp2_with fail
          refine (watErr_any b h _ c D d j _ (hb'.kept ((Kept.refl All _).alloc _) (fun _ _ => trivial)) hlt).mono ?_
          rintro e w2 ⟨rfl, hk2⟩
          go_wp2_with fail
          go_roundw
          case rel =>
            refine ⟨j + 1, by omega, by go_num, fun q hq => ?_, hk1.trans hk2⟩
            by_cases e : q = j
            · subst e; exact hz
            · exact hall.out q (by omega)
          case measure => simp [intOf]; omega
        · have hne : (watErr h j != 0) = true := by simpa using hz
          have HZ := Lib.hid hz
          clear hz
          go_wp2_with fail
          refine (watErr_any b h _ c D d j _ (hb'.kept ((Kept.refl All _).alloc _) (fun _ _ => trivial)) hlt).mono ?_
          rintro e w2 ⟨rfl, hk2⟩
          go_wp2_with fail
          go_ret2
          exact ⟨by rw [failErr, if_neg h3, firstErr_hit hlt hall.out HZ.out]; rfl, hk1.trans hk2⟩
      · have hjn : j = h.ws.length := by omega
        have HJ := Lib.hid hjn
        clear hjn
        go_wp2
        go_ret2
        exact ⟨by rw [failErr, if_neg h3, firstErr_none (fun q hq => hall.out q (by have := HJ.out; omega))]; rfl, hkw⟩

set_option maxHeartbeats 400000 in
theorem dayErr_any (b : Nat) (h : House) (A : Option Addr) (c : Nat) (D : Option Addr) (d : Nat) (k : Nat) (B : Option Addr) (e : Nat) (w : World) (hb : HBox w b h A c D d) (hl : (h.d k).length ≤ 1000000000000000000) (hn : Nums w B (h.d k).length (ix (h.d k))) :
    Calls Try.prog 35 #[.int .i64 k, .slice B (h.d k).length e, .pointer (some ⟨b, 0, none⟩)] w fun e w' =>
      e = .returned (.int .i64 (dayErr h k)) ∧ Kept All w w' := by
  have hw := hb.wcell
  have hnw := hb.nw
  by_cases hq : (h.d k).length = h.ws.length
  · have he : decide ((h.d k).length = h.ws.length) = true := by simpa using hq
    cases ho : anyOut (-1) 120 (ix (h.d k)) (h.d k).length with
    | true =>
      have HQ := Lib.hid hq
      have hv : dayErr h k = 7 := by rw [dayErr, if_neg (fun hc => hc hq), if_pos ho]
      rw [hv]
      clear hv
      go_enter Try.func35, Try.ntmps35
      go_wp2_with fail
      refine (off_any B _ e (ix (h.d k)) _ _ _ (by omega) (by rw [← HQ.out]; exact hn)).mono ?_
      rintro e w2 ⟨rfl, hk⟩
      rw [← HQ.out, ho]
      go_wp2_with fail
      go_ret
      exact ⟨rfl, hk⟩
    | false =>
      have HQ := Lib.hid hq
      have hv : dayErr h k = 0 := by rw [dayErr, if_neg (fun hc => hc hq), if_neg (by rw [ho]; simp)]
      rw [hv]
      clear hv
      go_enter Try.func35, Try.ntmps35
      go_wp2_with fail
      refine (off_any B _ e (ix (h.d k)) _ _ _ (by omega) (by rw [← HQ.out]; exact hn)).mono ?_
      rintro e w2 ⟨rfl, hk⟩
      rw [← HQ.out, ho]
      go_wp2_with fail
      go_ret
      exact ⟨rfl, hk⟩
  · have hv : dayErr h k = 3 := by simp [dayErr, hq]
    rw [hv]
    clear hv
    go_enter Try.func35, Try.ntmps35
    go_wp2
    go_ret
    exact ⟨rfl, Kept.refl _ _⟩

set_option maxHeartbeats 400000 in
theorem failD_any (b : Nat) (h : House) (A : Option Addr) (c : Nat) (D : Option Addr) (d : Nat) (w : World) (hb : HBox w b h A c D d) :
    Calls Try.prog 34 #[.slice D h.days.length d, .int .i64 4, .func (.func 35) #[] #[.pointer (some ⟨b, 0, none⟩)]] w fun e w' =>
      e = .returned (.tuple #[.int .i64 (failErr (dayErr h) h.days.length 4).1, .int .i64 (failErr (dayErr h) h.days.length 4).2]) ∧ Kept All w w' := by
  have hn := hb.nd
  by_cases h3 : 4 < h.days.length
  · go_enter Try.func34, Try.ntmps34
    go_wp2
    go_ret2
    exact ⟨by simp [failErr, h3], Kept.refl _ _⟩
  · go_enter Try.func34, Try.ntmps34
    go_wp2
    go_loopw [17] (fun k wr => ∃ j : Nat, j ≤ h.days.length ∧ k = .int .i64 j ∧ Hid (∀ q, q < j → dayErr h q = 0) ∧ Kept All w wr) (fun k _ => h.days.length - (intOf k).toNat)
    case atStart => exact ⟨0, by omega, rfl, fun q hq => by omega, Kept.refl _ _⟩
    case round =>
      obtain ⟨j, hj, rfl, hall, hkw⟩ := hrel
      by_cases hlt : j < h.days.length
      · have hb' := hb.kept hkw (fun _ _ => trivial)
        obtain ⟨ab, ao, rfl, hc⟩ := hb'.days (by omega)
        obtain ⟨B, e, c1, c2, c3⟩ := hc j hlt
        clear hc
        by_cases hz : dayErr h j = 0
        · go_wp2_with fail
          refine (dayErr_any b h _ c _ d j B e _ hb' c3 c2).mono ?_
          rintro e w2 ⟨rfl, hk2⟩
          go_wp2_with fail
          go_roundw
          case rel =>
            refine ⟨j + 1, by omega, by go_num, fun q hq => ?_, hkw.trans hk2⟩
            by_cases e : q = j
            · subst e; exact hz
            · exact hall.out q (by omega)
          case measure => simp [intOf]; omega
        · have hne : (dayErr h j != 0) = true := by simpa using hz
          have HZ := Lib.hid hz
          clear hz
          go_wp2_with fail
          refine (dayErr_any b h _ c _ d j B e _ hb' c3 c2).mono ?_
          rintro e w2 ⟨rfl, hk2⟩
          go_wp2_with fail
          go_ret2
          exact ⟨by rw [failErr, if_neg h3, firstErr_hit hlt hall.out HZ.out]; rfl, hkw.trans hk2⟩
      · have hjn : j = h.days.length := by omega
        have HJ := Lib.hid hjn
        clear hjn
        go_wp2
        go_ret2
        exact ⟨by rw [failErr, if_neg h3, firstErr_none (fun q hq => hall.out q (by have := HJ.out; omega))]; rfl, hkw⟩

/-- the parts of a house, in whatever place they lie -/
structure HIn (w : World) (h : House) (A : Option Addr) (c : Nat) (D : Option Addr) (d : Nat) : Prop where
  wats : WatsN w A h h.ws.length
  nw : h.ws.length ≤ 1000000000000000000
  nd : h.days.length ≤ 1000000000000000000
  cw : h.ws.length ≤ c
  names : ∀ i, (h.w i).name.size ≤ 1000000000000000000
  days : DaysN w D h
theorem HIn.kept {S : Nat → Prop} {w w' : World} {h : House} {A : Option Addr} {c : Nat} {D : Option Addr} {d : Nat} (hb : HIn w h A c D d) (hk : Kept S w w') (hS : ∀ k, k < w.heap.size → S k) : HIn w' h A c D d :=
  ⟨hb.wats.kept hk hS, hb.nw, hb.nd, hb.cw, hb.names, hb.days.kept hk hS⟩
theorem HIn.box {w : World} {h : House} {A : Option Addr} {c : Nat} {D : Option Addr} {d : Nat} (hb : HIn w h A c D d) (t : TypeId) {g : Nat} (hg : g = w.heap.size) :
    HBox (w.alloc (.cells #[.slice A h.ws.length c, .slice D h.days.length d] t)) g h A c D d := by
  have hk := hb.kept (((Kept.refl All w).alloc (.cells #[.slice A h.ws.length c, .slice D h.days.length d] t))) (fun _ _ => trivial)
  have hB := Blk.new' (w := w) t #[.slice A h.ws.length c, .slice D h.days.length d] hg
  exact ⟨hB.at 0 rfl, hB.at 1 rfl, hk.wats, hk.nw, hk.nd, hk.cw, hk.names, hk.days⟩

theorem check_any (h : House) (A : Option Addr) (c : Nat) (D : Option Addr) (d : Nat) (w : World) (hb : HIn w h A c D d) :
    Calls Try.prog 7 #[.agg #[.slice A h.ws.length c, .slice D h.days.length d]] w fun e w' =>
      e = .returned (.tuple #[.int .i64 (chk h).1, .int .i64 (chk h).2.1, .int .i64 (chk h).2.2]) ∧ Kept All w w' := by
  have hbx := hb.box 25 rfl
  have hk1 : Kept All w (w.alloc (.cells #[.slice A h.ws.length c, .slice D h.days.length d] 25)) := (Kept.refl _ _).alloc _
  by_cases hz : (failErr (watErr h) h.ws.length 3).2 = 0
  · by_cases hy : (failErr (dayErr h) h.days.length 4).2 = 0
    · go_enter Try.func7, Try.ntmps7
      go_wp2_with fail
      refine (failW_any _ h A c D d _ hbx).mono ?_
      rintro e w2 ⟨rfl, hk2⟩
      have hd2 := (hbx.kept hk2 (fun _ _ => trivial)).dcell
      go_wp2_with fail
      refine (failD_any _ h A c D d _ (hbx.kept hk2 (fun _ _ => trivial))).mono ?_
      rintro e w3 ⟨rfl, hk3⟩
      go_wp2_with fail
      go_ret3
      exact ⟨by simp [chk, hz, hy], (hk1.trans hk2).trans hk3⟩
    · have hne : ((failErr (dayErr h) h.days.length 4).2 != 0) = true := by simpa using hy
      have HY := Lib.hid hy
      clear hy
      go_enter Try.func7, Try.ntmps7
      go_wp2_with fail
      refine (failW_any _ h A c D d _ hbx).mono ?_
      rintro e w2 ⟨rfl, hk2⟩
      have hd2 := (hbx.kept hk2 (fun _ _ => trivial)).dcell
      go_wp2_with fail
      refine (failD_any _ h A c D d _ (hbx.kept hk2 (fun _ _ => trivial))).mono ?_
      rintro e w3 ⟨rfl, hk3⟩
      go_wp2_with fail
      go_ret3
      exact ⟨by simp [chk, hz, HY.out], (hk1.trans hk2).trans hk3⟩
  · have hne : ((failErr (watErr h) h.ws.length 3).2 != 0) = true := by simpa using hz
    have HZ := Lib.hid hz
    clear hz
    go_enter Try.func7, Try.ntmps7
    go_wp2_with fail
    refine (failW_any _ h A c D d _ hbx).mono ?_
    rintro e w2 ⟨rfl, hk2⟩
    go_wp2_with fail
    go_ret3
    exact ⟨by simp [chk, HZ.out], hk1.trans hk2⟩
end Go.Proofs.Ytiajiahfmfckjaa
