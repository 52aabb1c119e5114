/- The walk of package factor's Wrong. -/
import Derived.Test.YtiajiahfmfckjaaW2
namespace Go.Proofs.Ytiajiahfmfckjaa
open Go.RowKit
set_option maxRecDepth 10000

def WrongPost (w : World) (r : List Int × Int) (e : Ending) (w' : World) : Prop :=
  ∃ v, e = .returned (.tuple #[v, .int .i64 r.2]) ∧ w'.ownsRow w.heap.size 3 1 v r.1.length (encN r.1) ∧ Kept All w w'

theorem wrong_bad (h : House) (A : Option Addr) (c : Nat) (D : Option Addr) (d : Nat) (w : World) (hin : HIn w h A c D d) (hc : (chk h).2.2 ≠ 0) :
    Calls Try.prog 24 #[.agg #[.slice A h.ws.length c, .slice D h.days.length d]] w (WrongPost w (wrongA h)) := by
  have hne : ((chk h).2.2 != 0) = true := by simpa using hc
  have HA : Hid (wrongA h = ([], (chk h).2.2)) := by rw [wrongA, if_pos hc]; exact Lib.hid rfl
  clear hc
  go_enter Try.func24, Try.ntmps24
  go_wp2_with fail
  have hk0 : Kept All w (w.alloc (.cells #[.slice A h.ws.length c, .slice D h.days.length d] 25)) := (Kept.refl _ _).alloc _
  refine (check_any h A c D d _ (hin.kept hk0 (fun _ _ => trivial))).mono ?_
  rintro e w1 ⟨rfl, hk1⟩
  go_wp2_with fail
  go_ret2
  exact ⟨.slice none 0 0, by rw [HA.out]; rfl, by rw [HA.out]; exact ⟨by simp, .inl ⟨rfl, rfl⟩⟩, hk0.trans hk1⟩

set_option maxHeartbeats 4000000 in
theorem wrong_good (h : House) (A : Option Addr) (c : Nat) (D : Option Addr) (d : Nat) (w : World) (hin : HIn w h A c D d) (hc : (chk h).2.2 = 0) :
    Calls Try.prog 24 #[.agg #[.slice A h.ws.length c, .slice D h.days.length d]] w (WrongPost w (wrongA h)) := by
  have hv := valid_of_chk hc
  have hne : ((chk h).2.2 != 0) = false := by simpa using hc
  have HA : Hid (wrongA h = (wrongL h, 0)) := by rw [wrongA, if_neg (by simp [hc])]; exact Lib.hid rfl
  clear hc
  go_enter Try.func24, Try.ntmps24
  go_wp2_with fail
  have hk0 : Kept All w (w.alloc (.cells #[.slice A h.ws.length c, .slice D h.days.length d] 25)) := (Kept.refl _ _).alloc _
  refine (check_any h A c D d _ (hin.kept hk0 (fun _ _ => trivial))).mono ?_
  rintro e w1 ⟨rfl, hk1⟩
  have hB1 := (Blk.new w 25 #[.slice A h.ws.length c, .slice D h.days.length d]).kept hk1 trivial
  have hk := hk0.trans hk1
  clear hk1 hk0
  have b1 := hB1.at 1 rfl
  have lb1 := hB1.lt
  go_wp2_with fail
  go_loopw [24, 4] (fun td ta wr => ∃ (k : Nat), k ≤ h.days.length ∧ td = .int .i64 k ∧ wr.ownsRow w1.heap.size 3 1 ta (cellsAll h k).length (encN (cellsAll h k)) ∧ Kept (fun k => k < w1.heap.size) w1 wr) (fun td _ _ => h.days.length - (intOf td).toNat)
  case atStart => exact ⟨0, by omega, rfl, ⟨by simp [cellsAll], .inl ⟨rfl, rfl⟩⟩, Kept.refl _ _⟩
  case round =>
    obtain ⟨k, hkd, rfl, hor, hkr⟩ := hrel
    by_cases hlt : k < h.days.length
    · obtain ⟨db, dof, rfl, hdd⟩ := hin.days (by omega)
      obtain ⟨B, e, hcell, hnums, -⟩ := hdd k hlt
      have hlen := hv.dl k hlt
      have hkw : Kept (fun k => k < w.heap.size) w wr := hk.all.trans (hkr.mono fun x _ hx => by have := hk.size; omega)
      have dk := hkw.cell hcell (lt_of_cell hcell)
      have hnn := hnums.kept hkw (fun _ h => h)
      have hkd' : (k : Int) < (h.days.length : Int) := by omega
      have hnd := hv.nd
      have hnw := hv.nw
      go_wp2_with fail
      have HL := Lib.hid hlen
      clear hcell dk hlen
      obtain ⟨wo, rfl⟩ : ∃ wo : World, wo = wr := ⟨_, rfl⟩
      go_loopw [31, 4] (fun tn ta wr => ∃ (n : Nat), n ≤ h.ws.length ∧ tn = .int .i64 n ∧ wr.ownsRow w1.heap.size 3 1 ta (cellsAll h k ++ cellsRow h k n).length (encN (cellsAll h k ++ cellsRow h k n)) ∧ Kept (fun k => k < w1.heap.size) w1 wr) (fun tn _ _ => h.ws.length - (intOf tn).toNat)
      case atStart => exact ⟨0, by omega, rfl, by simpa [cellsRow] using hor, hkr⟩
      case round =>
        obtain ⟨n, hn, rfl, hoq, hkq⟩ := hrel
        by_cases hltn : n < h.ws.length
        · have hkw2 : Kept (fun k => k < w.heap.size) w wr := hk.all.trans (hkq.mono fun x _ hx => by have := hk.size; omega)
          obtain ⟨qb, qo, rfl, hq⟩ := hnums (by have := HL.out; omega)
          have cq := hq n (by have := HL.out; omega)
          have cn := hkw2.cell cq (lt_of_cell cq)
          have hni : (n : Int) < (h.ws.length : Int) := by omega
          have hmul : k * h.ws.length ≤ 3 * 3 := Nat.mul_le_mul (by omega) hnw
          have hB2 := hB1.kept hkq lb1
          have x0 := hB2.at 0 rfl
          clear cq hnn hor
          by_cases hz : ix (h.d k) n = -1
          · have hzz : (ix (h.d k) n != -1) = false := by simp [hz]
            have HR : Hid (cellsRow h k (n + 1) = cellsRow h k n) := by rw [cellsRow, if_pos hz]; exact Lib.hid rfl
            clear hz
            go_wp2_with fail
            go_roundw
            case rel => exact ⟨n + 1, by omega, by go_num, by rw [HR.out]; exact hoq, hkq⟩
            case measure => simp [intOf]; omega
          · have hzz : (ix (h.d k) n != -1) = true := by simp [hz]
            have HR : Hid (cellsRow h k (n + 1) = cellsRow h k n ++ [((k * h.ws.length + n : Nat) : Int)]) := by rw [cellsRow, if_neg hz]; exact Lib.hid rfl
            clear hz
            have hm1 : (k : Int) * (h.ws.length : Int) ≤ 9 := by have := Int.ofNat_le.2 hmul; simpa using this
            have hm0 : 0 ≤ (k : Int) * (h.ws.length : Int) := Int.mul_nonneg (by omega) (by omega)
            have hlq := cellsRow_len h k n
            have hla := cellsAll_len hv k (by omega)
            have hlen2 : (cellsAll h k ++ cellsRow h k n).length ≤ 100 := by simp; omega
            clear hlq hla hmul
            obtain ⟨i0, hi0, hz0, hz1, hz2⟩ := info_parts info3
            go_wp2_with (at_builtin; refine wpList_append_lies _ rfl _ _ 28 rfl w1.heap.size 3 i0 (.int .i64 0) 1 8 Try.underlying28 hi0 hz0 hz1 hz2 rfl (by decide) _ _ _ rfl (hoq.alloc _) ⟨wr.heap.size, 0, none⟩ 1 1 [.int .i64 ((k : Int) * (h.ws.length : Int) + (n : Int))] rfl rfl (cell_one_new _ _ _) (ints_oneCell .i64 [_]) (by decide) (by unfold maxLen; omega) (by omega) (by have := hkq.size; simp; omega) _ rfl ?_; intro g cap w2 hown hgrow hat hlt2)
            go_roundw
            case rel =>
              refine ⟨n + 1, by omega, by go_num, ?_, ?_⟩
              · rw [HR.out]
                simpa [encN, Nat.add_assoc] using hown
              · exact (hkq.alloc _).grown hgrow (fun x hx hlx => by have := (owns_lt hoq hx).1; omega)
            case measure => simp [intOf]; omega
        · obtain rfl : n = h.ws.length := by omega
          have hcs : cellsAll h (k + 1) = cellsAll h k ++ cellsRow h k h.ws.length := by rw [cellsAll, HL.out]
          rw [← hcs] at hoq
          clear hcs
          go_wp2_with fail
          exact ⟨⟨k + 1, by omega, by go_num, hoq, hkq⟩, by simp only [intOf]; omega⟩
    · obtain rfl : k = h.days.length := by omega
      have hla := cellsAll_len hv h.days.length (Nat.le_refl _)
      have hmem := cellsAll_mem hv h.days.length (Nat.le_refl _)
      have hnd := hv.nd
      have HW : Hid (wrongL h = wrongGo (fun set => !(truths h set).isEmpty) (cellsAll h h.days.length) ((cellsAll h h.days.length).length + 1) 0) := Lib.hid rfl
      obtain ⟨L, hL⟩ : ∃ L, cellsAll h h.days.length = L := ⟨_, rfl⟩
      obtain ⟨F, hF⟩ : ∃ F, (fun set => !(truths h set).isEmpty) = F := ⟨_, rfl⟩
      rw [hL] at hor hla hmem HW
      rw [hF] at HW
      have HF := Lib.hid hF
      have hL12 : L.length ≤ 12 := by omega
      clear hL hF hla
      obtain ⟨A0, c0, rfl, -⟩ := owns_nums hor
      obtain ⟨i0, hi0, hz0, hz1, hz2⟩ := info_parts info3
      go_wp2_with (first | (refine wpList_make_full _ rfl _ _ 28 rfl w1.heap.size 3 i0 (.int .i64 0) 1 Try.underlying28 hi0 hz0 hz1 .i64 .i64 _ _ L.length rfl rfl rfl rfl (by rw [hz2]; omega) (by unfold maxLen; omega) hkr.size ?_; intro w2 hown2 hgrow2; have hor2 := World.ownsRow.kept hor hgrow2 (by cases hv : (Value.slice A0 L.length c0).ownBlock <;> simp); have hkr2 := Kept.grown hkr hgrow2 (fun x hx => by cases hx); have hs2 := Kept.size hkr) | (refine wpList_copy_whole rfl (.tmp 53) (.tmp 54) 28 28 rfl 3 Try.underlying28 (by kernel_rfl) w1.heap.size w1.heap.size wr.heap.size L.length _ (encN L) _ rfl rfl hor2 hown2 (ints_oneCell .i64 L) ?_; intro w3 hown3 hk3))
      have hk4 : Kept (fun k => k < w1.heap.size) w1 w3 := hkr2.trans (hk3.mono fun x _ hx => by omega)
      clear hor2 hkr2 hown2 hgrow2 hk3 hs2 hor
      have hK0 : Kept All w w3 := ⟨hk4.os.trans hk.os, hk4.tape.trans hk.tape, hk4.output.trans hk.output, Nat.le_trans hk.size hk4.size, fun x hx _ => (hk4.block x (Nat.lt_of_lt_of_le hx hk.size) (Nat.lt_of_lt_of_le hx hk.size)).trans (hk.block x hx trivial)⟩
      have hB3 := hB1.kept hk4 lb1
      have hlow : w.heap.size ≤ w1.heap.size := hk.size
      have hnum : Nums w3 (some ⟨wr.heap.size, 0, none⟩) L.length (ix L) := fun hn => ⟨_, _, rfl, fun i hi => by rw [Nat.zero_add, hown3.cellAt i (by omega)]; simp [encN, ix, hi]⟩
      have hix : ∀ k, k < L.length → 0 ≤ ix L k ∧ ix L k ≤ 11 := fun k hk => hmem _ (by simp [ix, hk])
      have hsm : ∀ W set, Kept (fun k => k < w3.heap.size) w3 W → Calls Try.prog 49 (#[.int .i64 set] ++ #[ptr w.heap.size]) W fun e W' => e = .returned (.bool (F set)) ∧ Kept All W W' := fun W set hkW => by
        have hf : F set = !(truths h set).isEmpty := by rw [← HF.out]
        rw [hf]
        have hlt := hB3.lt
        exact some49_any hv W (hin.kept (hK0.all.trans hkW) (fun k hk => by have := hK0.size; omega)) (hB3.kept hkW (by omega)) set
      have hb0 := hB3.lt
      have cz := hB3.at 0 rfl
      clear hmem hk4 hk hB1 hne hkr lb1
      obtain ⟨wo, rfl⟩ : ∃ wo : World, wo = wr := ⟨_, rfl⟩
      go_loopw [59] (fun tm wr => ∃ m : Nat, m ≤ L.length + 1 ∧ tm = .int .i64 m ∧ Kept All w3 wr ∧ Hid (wrongL h = wrongGo F L (L.length + 1 - m) m)) (fun tm _ => L.length + 1 - (intOf tm).toNat)
      case atStart => exact ⟨0, by omega, rfl, Kept.refl _ _, HW⟩
      case round =>
        obtain ⟨m, hm, rfl, hkq, HM⟩ := hrel
        clear HW
        by_cases hlt : m < L.length + 1
        · have hmi : (m : Int) < (L.length : Int) + 1 := by omega
          have HS : Hid (wrongGo F L (L.length + 1 - m) m = match wrongAt F L m with | some ys => ys | none => wrongGo F L (L.length + 1 - (m + 1)) (m + 1)) := by
            rw [show L.length + 1 - m = (L.length + 1 - (m + 1)) + 1 by omega, wrongGo]; exact Lib.hid rfl
          have hfirst := first_any (w0 := wr) (l := L) (L := some ⟨wo.heap.size, 0, none⟩) (c := L.length) (many := m) (d := 49) (caps := #[ptr w.heap.size]) (D := F) (enters_of Try.func49 (by kernel_rfl) rfl)
            (fun W set hkW => hsm W set (hkq.all.trans (hkW.mono fun x hx hlx => by omega))) (hnum.kept hkq (fun _ _ => trivial)) (by omega) hix (by omega)
          have HSM := Lib.hid hsm
          clear hsm
          go_wp2_with fail
          refine hfirst.mono ?_
          clear hfirst
          rintro e w5 ⟨hp5, hk5⟩
          have hk35 := hkq.trans hk5
          cases hq : pick F L m with
          | some ys =>
            rw [hq] at hp5
            obtain ⟨v, rfl, hor5⟩ := hp5
            have hAt : wrongAt F L m = some ys := by rw [wrongAt, hq]
            have hys := wrongAt_len hAt
            have hm0 : 0 < m := Nat.pos_of_ne_zero fun e => by rw [pick, if_pos e] at hq; cases hq
            have HY : Hid (wrongL h = ys) := by rw [HM.out, HS.out, hAt]; exact Lib.hid rfl
            clear hAt hq
            obtain ⟨g5, c5, rfl, hg5, -⟩ := hor5.form (by omega)
            clear hys
            go_wp2_with fail
            go_ret2
            exact ⟨_, by rw [HA.out]; rfl, by rw [HA.out, HY.out]; exact owns_low hor5 (by have := hkq.size; have := hK0.size; omega), hK0.trans hk35⟩
          | none =>
            rw [hq] at hp5
            obtain rfl : e = _ := hp5
            by_cases hm0 : m = 0
            · have hz : ((m : Int) == 0) = true := by simp [hm0]
              have HM0 := Lib.hid hm0
              clear hm0
              have hin5 : HIn w5 h A c D d := hin.kept (hK0.trans hk35) (fun _ _ => trivial)
              have hB5 := hB3.kept hk35 trivial
              have y0 := hB5.at 0 rfl
              have y1 := hB5.at 1 rfl
              go_wp2_with fail
              refine (look_any h 0 A c D d w5 hin5).mono ?_
              rintro e w6 ⟨rfl, hk6, hz6, hp6⟩
              clear y0 y1
              go_wp2_with fail
              refine (some_any hv hp6 (by omega)).mono ?_
              rintro e w7 ⟨rfl, hs7, hk7, -⟩
              have hk37 : Kept All w3 w7 := hk35.trans (hk6.weld hk7 (fun k hk => by omega))
              have hF0 : (!(truths h 0).isEmpty) = F 0 := by rw [← HF.out]
              rw [hF0]
              cases hD : F 0 with
              | true =>
                have HY : Hid (wrongL h = []) := by rw [HM.out, HS.out, wrongAt, hq, if_pos ⟨HM0.out, hD⟩]; exact Lib.hid rfl
                clear hD hq hF0 hk6 hk7
                go_wp2_with fail
                go_ret2
                exact ⟨.slice none 0 0, by rw [HA.out]; rfl, by rw [HA.out, HY.out]; exact ⟨by simp, .inl ⟨rfl, rfl⟩⟩, hK0.trans hk37⟩
              | false =>
                have HY : Hid (wrongL h = wrongGo F L (L.length + 1 - (m + 1)) (m + 1)) := by rw [HM.out, HS.out, wrongAt, hq, if_neg (by simp [hD])]; exact Lib.hid rfl
                clear hD hq hF0 hk6 hk7
                go_wp2_with fail
                exact ⟨⟨m + 1, by omega, by go_num, hk37, HY⟩, by simp only [intOf]; omega⟩
            · have hz : ((m : Int) == 0) = false := by simp [hm0]
              have HY : Hid (wrongL h = wrongGo F L (L.length + 1 - (m + 1)) (m + 1)) := by rw [HM.out, HS.out, wrongAt, hq, if_neg (by simp [hm0])]; exact Lib.hid rfl
              clear hm0 hq
              go_wp2_with fail
              exact ⟨⟨m + 1, by omega, by go_num, hk35, HY⟩, by simp only [intOf]; omega⟩
        · obtain rfl : m = L.length + 1 := by omega
          have HY : Hid (wrongL h = L) := by rw [HM.out, Nat.sub_self, wrongGo]; exact Lib.hid rfl
          go_wp2_with fail
          go_ret2
          exact ⟨_, by rw [HA.out]; rfl, by rw [HA.out, HY.out]; exact owns_low (owns_kept hown3 hkq (fun _ _ => trivial)) (by omega), hK0.trans hkq⟩

theorem wrong_any (h : House) (A : Option Addr) (c : Nat) (D : Option Addr) (d : Nat) (w : World) (hin : HIn w h A c D d) :
    Calls Try.prog 24 #[.agg #[.slice A h.ws.length c, .slice D h.days.length d]] w (WrongPost w (wrongA h)) := by
  by_cases hc : (chk h).2.2 = 0
  · exact wrong_good h A c D d w hin hc
  · exact wrong_bad h A c D d w hin hc
theorem wrongA_len (h : House) : (wrongA h).1.length ≤ 100 := by
  unfold wrongA
  split
  · simp
  · rename_i hc
    have hv := valid_of_chk (by simpa using hc)
    have h1 := cellsAll_len hv h.days.length (Nat.le_refl _)
    have h2 := hv.nd
    have h3 := wrongGo_len (D := fun set => !(truths h set).isEmpty) (l := cellsAll h h.days.length) ((cellsAll h h.days.length).length + 1) 0 (by omega)
    simp only [wrongL]
    omega
end Go.Proofs.Ytiajiahfmfckjaa
