/- The walks of package factor's Check and of all that it calls. -/
import Derived.Test.YtiajiahfmfckjaaProg
import Derived.Test.YtiajiahfmfckjaaBa
import Derived.Test.YtiajiahfmfckjaaSp
import Derived.Outline
import Derived.BigQuiet
import Derived.Deep.QuietTactic
import Derived.RegionTactic
import Derived.LoopTactic
import Derived.Laws.RangeAny
import Derived.Laws.EntriesVeiled
import Derived.WalkSpells
import Derived.WalkLawsBesides
namespace Go.Proofs.Ytiajiahfmfckjaa
open Go.RowKit
set_option maxRecDepth 10000

theorem ret_bool {a b : Bool} (h : a = b) : Ending.returned (.bool a) = .returned (.bool b) := by rw [h]
theorem ret_i64 {a b : Int} (h : a = b) : Ending.returned (.int .i64 a) = .returned (.int .i64 b) := by rw [h]

/-- n numbers lie from A on -/
def Nums (w : World) (A : Option Addr) (n : Nat) (f : Nat → Int) : Prop :=
  0 < n → ∃ b off, A = some ⟨b, off, none⟩ ∧ ∀ i, i < n → w.cell? ⟨b, off + i, none⟩ = some (.int .i64 (f i))
theorem Nums.kept {S : Nat → Prop} {w w' : World} {A : Option Addr} {n : Nat} {f : Nat → Int} (h : Nums w A n f) (hk : Kept S w w') (hS : ∀ k, k < w.heap.size → S k) : Nums w' A n f := fun hn => by
  obtain ⟨b, off, hA, hc⟩ := h hn
  exact ⟨b, off, hA, fun i hi => hk.cell (hc i hi) (hS _ (lt_of_cell (hc i hi)))⟩

/-- the observers of a house lie from A on -/
def Wats (w : World) (A : Option Addr) (h : House) : Prop :=
  0 < h.ws.length → ∃ b off, A = some ⟨b, off, none⟩ ∧ ∀ i, i < h.ws.length →
    w.cell? ⟨b, off + i * 4, none⟩ = some (.string (h.w i).name) ∧ w.cell? ⟨b, off + i * 4 + 1, none⟩ = some (.int .i64 (h.w i).lo) ∧
    w.cell? ⟨b, off + i * 4 + 2, none⟩ = some (.int .i64 (h.w i).hi) ∧ w.cell? ⟨b, off + i * 4 + 3, none⟩ = some (.int .i64 (h.w i).off)

theorem off1_any (n lo hi : Int) (a b : Nat) (w : World) (h1 : w.cell? ⟨a,0,none⟩ = some (.int .i64 lo)) (h2 : w.cell? ⟨b,0,none⟩ = some (.int .i64 hi)) :
    Calls Try.prog 69 #[.int .i64 n, .pointer (some ⟨a,0,none⟩), .pointer (some ⟨b,0,none⟩)] w fun e w' => e = .returned (.bool (outB lo hi n)) ∧ w = w' := by
  by_cases h : n < lo
  · have hd : decide (n < lo) = true := by simpa using h
    go_enter Try.func69, Try.ntmps69
    go_wp2
    go_ret
    simp [outB, h]
  · have hd : decide (n < lo) = false := by simpa using h
    go_enter Try.func69, Try.ntmps69
    go_wp2
    go_ret
    exact ⟨ret_bool (by simp [outB]; omega), rfl⟩

theorem index_any (A : Option Addr) (n c : Nat) (f : Nat → Int) (lo hi : Int) (a b : Nat) (w : World) (hn : n ≤ 9223372036854775807) (hr : Nums w A n f)
    (h1 : w.cell? ⟨a,0,none⟩ = some (.int .i64 lo)) (h2 : w.cell? ⟨b,0,none⟩ = some (.int .i64 hi)) :
    Calls Try.prog 79 #[.slice A n c, .func (.func 69) #[] #[.pointer (some ⟨a,0,none⟩), .pointer (some ⟨b,0,none⟩)]] w fun e w' =>
      ∃ i, e = .returned (.int .i64 i) ∧ w = w' ∧ decide (0 ≤ i) = anyOut lo hi f n := by
  go_enter Try.func79, Try.ntmps79
  go_wp2
  go_loop [8] (fun i => ∃ k : Nat, k ≤ n ∧ i = .int .i64 k ∧ Hid (∀ j, j < k → outB lo hi (f j) = false)) (fun i => n - (intOf i).toNat)
  case atStart => exact ⟨0, Nat.zero_le _, rfl, fun j h => by omega⟩
  case round =>
    obtain ⟨k, hk, rfl, hall⟩ := hrel
    by_cases hlt : k < n
    · obtain ⟨b1, off, rfl, hc⟩ := hr (by omega)
      have hc' := hc k hlt
      clear hc hr
      cases hb : outB lo hi (f k) with
      | true =>
        go_wp2_with (go_at_call 69; refine (off1_any _ lo hi a b _ h1 h2).mono ?_; rintro e w' ⟨rfl, rfl⟩)
        go_ret
        exact ⟨k, rfl, rfl, by rw [anyOut_true hb hlt]; simp⟩
      | false =>
        go_wp2_with (go_at_call 69; refine (off1_any _ lo hi a b _ h1 h2).mono ?_; rintro e w' ⟨rfl, rfl⟩)
        go_round
        case rel =>
          refine ⟨k + 1, by omega, by go_num, fun j hj => ?_⟩
          by_cases e : j = k
          · subst e; exact hb
          · exact hall.out j (by omega)
        case measure => simp [intOf]; omega
    · go_wp2
      go_ret
      exact ⟨-1, rfl, rfl, by rw [anyOut_false (fun j hj => hall.out j (by omega))]; rfl⟩

theorem contains_any (A : Option Addr) (n c : Nat) (f : Nat → Int) (lo hi : Int) (a b : Nat) (w : World) (hn : n ≤ 9223372036854775807) (hr : Nums w A n f)
    (h1 : w.cell? ⟨a,0,none⟩ = some (.int .i64 lo)) (h2 : w.cell? ⟨b,0,none⟩ = some (.int .i64 hi)) :
    Calls Try.prog 68 #[.slice A n c, .func (.func 69) #[] #[.pointer (some ⟨a,0,none⟩), .pointer (some ⟨b,0,none⟩)]] w fun e w' =>
      e = .returned (.bool (anyOut lo hi f n)) ∧ w = w' := by
  go_enter Try.func68, Try.ntmps68
  go_wp2_with (go_at_call 79; refine (index_any A n c f lo hi a b _ hn hr h1 h2).mono ?_; rintro e w' ⟨i, rfl, rfl, hi'⟩)
  go_ret
  exact ⟨by rw [← hi']; rfl, rfl⟩

theorem off_any (A : Option Addr) (n c : Nat) (f : Nat → Int) (lo hi : Int) (w : World) (hn : n ≤ 9223372036854775807) (hr : Nums w A n f) :
    Calls Try.prog 36 #[.int .i64 lo, .int .i64 hi, .slice A n c] w fun e w' =>
      e = .returned (.bool (anyOut lo hi f n)) ∧ Kept All w w' := by
  go_enter Try.func36, Try.ntmps36
  have hk : Kept All w ((w.alloc (.cells #[.int .i64 lo] 3)).alloc (.cells #[.int .i64 hi] 3)) := ((Kept.refl _ _).alloc _).alloc _
  have hr2 := hr.kept hk (fun _ _ => trivial)
  go_wp2_with (go_at_call 68; refine (contains_any A n c f lo hi _ _ _ hn hr2 ?_ ?_).mono ?_)
  · simp [go_sem]
  · simp [go_sem]
  · rintro e w' ⟨rfl, rfl⟩
    go_wp2
    go_ret
    exact ⟨rfl, hk⟩

theorem out_any (A : Option Addr) (n c : Nat) (f : Nat → Int) (lo hi : Int) (w : World) (hn : n ≤ 9223372036854775807) (hr : Nums w A n f) :
    Calls Try.prog 77 #[.int .i64 lo, .int .i64 hi, .slice A n c] w fun e w' => e = .returned (.bool (anyOut lo hi f n)) ∧ w = w' := by
  go_enter Try.func77, Try.ntmps77
  go_wp2
  go_loop [11] (fun i => ∃ k : Nat, k ≤ n ∧ i = .int .i64 k ∧ Hid (∀ j, j < k → outB lo hi (f j) = false)) (fun i => n - (intOf i).toNat)
  case atStart => exact ⟨0, Nat.zero_le _, rfl, fun j h => by omega⟩
  case round =>
    obtain ⟨k, hk, rfl, hall⟩ := hrel
    by_cases hlt : k < n
    · obtain ⟨b1, off, rfl, hc⟩ := hr (by omega)
      have hc' := hc k hlt
      clear hc hr
      by_cases h1 : f k < lo
      · have hd : decide (f k < lo) = true := by simpa using h1
        go_wp2
        go_ret
        exact ⟨ret_bool (anyOut_true (k := k) (by simp [outB, h1]) hlt).symm, rfl⟩
      · have hd : decide (f k < lo) = false := by simpa using h1
        by_cases h2 : hi < f k
        · have hd2 : decide (hi < f k) = true := by simpa using h2
          go_wp2
          go_ret
          exact ⟨ret_bool (anyOut_true (k := k) (by simp [outB, h2]) hlt).symm, rfl⟩
        · have hd2 : decide (hi < f k) = false := by simpa using h2
          go_wp2
          go_round
          case rel =>
            refine ⟨k + 1, by omega, by go_num, fun j hj => ?_⟩
            by_cases e : j = k
            · subst e; simp [outB]; omega
            · exact hall.out j (by omega)
          case measure => simp [intOf]; omega
    · go_wp2
      go_ret
      exact ⟨ret_bool (anyOut_false (fun j hj => hall.out j (by omega))).symm, rfl⟩

theorem nums_one {w : World} {g : Nat} (x : Int) (t : TypeId) (hg : g = w.heap.size) : Nums (w.alloc (.cells #[.int .i64 x] t)) (some ⟨g, 0, none⟩) 1 (fun _ => x) := fun _ =>
  ⟨_, _, rfl, fun i hi => by obtain rfl : i = 0 := by omega
                             subst hg; simp [go_sem]⟩
theorem nums_two {w : World} {g : Nat} (x y : Int) (t : TypeId) (hg : g = w.heap.size) : Nums (w.alloc (.cells #[.int .i64 x, .int .i64 y] t)) (some ⟨g, 0, none⟩) 2 (ix [x, y]) := fun _ =>
  ⟨_, _, rfl, fun i hi => by obtain rfl | rfl : i = 0 ∨ i = 1 := by omega
                             all_goals subst hg; simp [go_sem, ix]⟩
theorem nums_four {w : World} {g : Nat} (x y z u : Int) (t : TypeId) (hg : g = w.heap.size) : Nums (w.alloc (.cells #[.int .i64 x, .int .i64 y, .int .i64 z, .int .i64 u] t)) (some ⟨g, 0, none⟩) 4 (ix [x, y, z, u]) := fun _ =>
  ⟨_, _, rfl, fun i hi => by obtain rfl | rfl | rfl | rfl : i = 0 ∨ i = 1 ∨ i = 2 ∨ i = 3 := by omega
                             all_goals subst hg; simp [go_sem, ix]⟩

theorem width_pos (s : ByteArray) (pos : Nat) (h : pos < s.size) : 1 ≤ (Utf8.decode s pos).2 := by
  by_cases ha : (s[pos]'h).toNat < 128
  · rw [decode_ascii s pos h ha]; exact Nat.le_refl _
  · exact (decode_high s pos h (by omega)).2

theorem nameGo_end (s : ByteArray) (b pos : Nat) (h : ¬ pos < s.size) : nameGo s b pos = true := by
  cases b with
  | zero => rfl
  | succ b => simp [nameGo, h]

set_option maxRecDepth 1000000 in
theorem name_any (s : ByteArray) (w : World) (hs : s.size ≤ 9223372036854775807) :
    Calls Try.prog 62 #[.string s] w fun e w' => e = .returned (.bool (nameOK s)) ∧ Kept All w w' := by
  go_enter Try.func62, Try.ntmps62
  go_wp2
  go_loopw [] (fun w' => ∃ (pos b : Nat), w' = w.iter s pos ∧ Hid (nameGo s b pos = nameGo s s.size 0) ∧ s.size ≤ pos + b) (fun w' => s.size - w'.iterPos w.heap.size)
  case atStart => exact ⟨0, s.size, rfl, rfl, by omega⟩
  case round =>
    obtain ⟨pos, b, rfl, hg, hb⟩ := hrel
    by_cases hp : pos < s.size
    · have hwd := width_pos s pos hp
      have hnx : ∀ ty, (Instr.next (.pointer (some ⟨w.heap.size, 0, none⟩)) true ty).run Try.prog (w.iter s pos) = _ := fun ty => run_next_any w s pos ty hp
      have hc0 : (Utf8.decode s pos).1 ≤ 2147483647 := decode_le s pos
      generalize hd : Utf8.decode s pos = dd at hnx hwd hc0
      obtain ⟨c, wd⟩ := dd
      have hd := Lib.hid hd
      have hb' : ∃ b', b = b' + 1 := ⟨b - 1, by omega⟩
      obtain ⟨b, rfl⟩ := hb'
      have hstep : Hid (nameGo s (b + 1) pos = if runeOK pos c then nameGo s b (pos + wd) else false) := by
        show nameGo s (b + 1) pos = _
        simp only [nameGo, hp, if_true, hd.out]
      clear hd
      go_wp2
      all_goals first
        | (go_roundw
           case rel =>
             have hr : runeOK pos c = true := by
               unfold runeOK
               simp at *
               omega
             exact ⟨pos + wd, b, rfl, by rw [hr, if_pos rfl] at hstep; exact hstep.out.symm.trans hg.out, by omega⟩
           case measure => simp; omega)
        | (have hr : runeOK pos c = false := by
             unfold runeOK
             simp at *
             omega
           go_ret
           exact ⟨ret_bool (by rw [nameOK, ← hg.out, hstep.out, hr]; simp), (Kept.refl _ _).alloc _⟩)
    · have hnx : ∀ ty, (Instr.next (.pointer (some ⟨w.heap.size, 0, none⟩)) true ty).run Try.prog (w.iter s pos) = _ := fun ty => run_next_end w s pos ty hp
      have hk : Kept All w (w.iter s pos) := (Kept.refl _ _).alloc _
      go_wp2_with (go_at_call 77; refine (out_any _ _ _ _ _ _ _ (by omega) (by exact nums_one _ _ (by simp))).mono ?_; rintro e w' ⟨rfl, rfl⟩)
      go_ret
      exact ⟨ret_bool (by rw [nameOK, ← hg.out, nameGo_end s b pos hp]; simp [anyOut]), hk.alloc _⟩
end Go.Proofs.Ytiajiahfmfckjaa
