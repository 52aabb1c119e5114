/- The plain law and the walk of package factor's first. -/
import Derived.Test.YtiajiahfmfckjaaD9
import Derived.Deep.RegionHeld3
import Derived.Deep.RegionLaw
namespace Go.Proofs.Ytiajiahfmfckjaa
open Go.RowKit
set_option maxRecDepth 10000

/-- a set with one bit more -/
def setBit (set x : Int) : Int := bits BinOp.or .i64 set (wrap64 (2 ^ x.toNat))
/-- the first answer from place i on (b places are left) -/
def pickGo (P : Nat → Option (List Int)) : Nat → Nat → Option (List Int)
  | 0, _ => none
  | b + 1, i => match P i with
    | some ys => some ys
    | none => pickGo P b (i + 1)
/-- the first way to take r more of the numbers l from place i on, for which D says yes -/
def pickAt (D : Int → Bool) (l : List Int) : Nat → Nat → Int → List Int → Option (List Int)
  | 0, _, set, xs => if D set then some xs else none
  | r + 1, i, set, xs => pickGo (fun k => pickAt D l r (k + 1) (setBit set (ix l k)) (xs ++ [ix l k])) (l.length - i) i

/-- what first's closure finds in memory -/
structure FEnv (w0 : World) (W : World) (l : List Int) (L : Option Addr) (c : Nat) (many : Nat) (dv : Value) : Prop where
  kept : Kept (fun k => k < w0.heap.size) w0 W
  bl : Blk W w0.heap.size 28 #[.slice L l.length c]
  bm : Blk W (w0.heap.size + 1) 3 #[.int .i64 many]
  bd : Blk W (w0.heap.size + 2) 94 #[dv]
  bn : Blk W (w0.heap.size + 4) 114 #[.func (.func 73) #[] #[ptr (w0.heap.size + 3), ptr (w0.heap.size + 1), ptr (w0.heap.size + 2), ptr w0.heap.size, ptr (w0.heap.size + 4)]]
def OwnAt (w0 : World) (W : World) (xs : List Int) : Prop := ∃ v, Blk W (w0.heap.size + 3) 28 #[v] ∧ W.ownsRow (w0.heap.size + 5) 3 1 v xs.length (encN xs)
theorem FEnv.step {S : Nat → Prop} {w0 W W' : World} {l : List Int} {L : Option Addr} {c many : Nat} {dv : Value} (h : FEnv w0 W l L c many dv) (hk : Kept S W W') (hS : ∀ k, k < w0.heap.size + 5 → k ≠ w0.heap.size + 3 → S k) : FEnv w0 W' l L c many dv :=
  ⟨h.kept.trans (hk.mono fun k _ hlt => hS k (by omega) (by omega)), h.bl.kept hk (hS _ (by omega) (by omega)), h.bm.kept hk (hS _ (by omega) (by omega)), h.bd.kept hk (hS _ (by omega) (by omega)), h.bn.kept hk (hS _ (by omega) (by omega))⟩
theorem OwnAt.step {w0 W W' : World} {xs : List Int} (h : OwnAt w0 W xs) (hk : Kept All W W') : OwnAt w0 W' xs := by
  obtain ⟨v, h1, h2⟩ := h
  exact ⟨v, h1.kept hk trivial, owns_kept h2 hk (fun _ _ => trivial)⟩
def PickPost (w0 : World) (l : List Int) (L : Option Addr) (c many : Nat) (dv : Value) (xs : List Int) (e : Ending) (W' : World) : Option (List Int) → Prop
  | some ys => e = .returned (.bool true) ∧ FEnv w0 W' l L c many dv ∧ OwnAt w0 W' ys
  | none => e = .returned (.bool false) ∧ FEnv w0 W' l L c many dv ∧ OwnAt w0 W' xs

theorem own_append {w0 W w2 : World} {v : Value} {xs : List Int} {x : Int} {g cap : Nat} (hov : Blk W (w0.heap.size + 3) 28 #[v]) 
    (hown : w2.ownsRow (w0.heap.size + 5) 3 1 (.slice (some ⟨g, 0, none⟩) (xs.length + 1) cap) (xs.length + 1) (encN xs ++ [.int .i64 x])) (hkA : Kept (fun k => k < w0.heap.size + 5) W w2) :
    OwnAt w0 (w2.setCell ⟨w0.heap.size + 3, 0, none⟩ (.slice (some ⟨g, 0, none⟩) (xs.length + 1) cap)) (xs ++ [x]) ∧ Kept (fun k => k < w0.heap.size + 5 ∧ k ≠ w0.heap.size + 3) W (w2.setCell ⟨w0.heap.size + 3, 0, none⟩ (.slice (some ⟨g, 0, none⟩) (xs.length + 1) cap)) := by
  have B2 := hov.kept hkA (by omega)
  have hkC : Kept (fun k => k ≠ w0.heap.size + 3) w2 (w2.setCell ⟨w0.heap.size + 3, 0, none⟩ (.slice (some ⟨g, 0, none⟩) (xs.length + 1) cap)) := (Kept.refl _ _).setCell (fun _ h => h rfl) _
  refine ⟨⟨_, B2.set 0 _, ?_⟩, (hkA.mono fun k _ h => h.1).setCell (fun _ h => h.2 rfl) _⟩
  have := owns_kept hown hkC (fun q hq => by have := (owns_lt hown hq).1; omega)
  simpa using this

theorem owns_low {w : World} {base base' : Nat} {e : TypeId} {size : Nat} {v : Value} {n : Nat} {xs : List Value} (h : w.ownsRow base e size v n xs) (hb : base' ≤ base) : w.ownsRow base' e size v n xs := by
  refine ⟨h.1, ?_⟩
  rcases h.2 with hn | ⟨g, cap, cur, h1, h2, rest⟩
  · exact .inl hn
  · exact .inr ⟨g, cap, cur, h1, Nat.le_trans hb h2, rest⟩

theorem owns_pop {w : World} {base : Nat} {A : Option Addr} {c : Nat} {xs : List Int} {x : Int} (h : w.ownsRow base 3 1 (.slice A (xs ++ [x]).length c) (xs ++ [x]).length (encN (xs ++ [x]))) :
    w.ownsRow base 3 1 (.slice A xs.length c) xs.length (encN xs) := by
  rcases h.2 with ⟨_, e⟩ | ⟨g, cap, cur, hv, hb, hg, h1, h2, h3, h4⟩
  · simp at e
  · injection hv with e1 _ e2
    subst e1 e2
    refine ⟨by simp [encN], .inr ⟨g, c, cur, rfl, hb, hg, by simp at h1; omega, h2, h3, ?_⟩⟩
    have := congrArg (List.take (xs.length * 1)) h4
    rw [List.take_take] at this
    rw [show min (xs.length * 1) ((xs ++ [x]).length * 1) = xs.length * 1 by simp] at this
    rw [this]
    simp [encN]

section
variable {w0 : World} {l : List Int} {L : Option Addr} {c many d : Nat} {caps : Array Value} {D : Int → Bool}

set_option maxHeartbeats 2000000 in
theorem pick_any (hdf : ∀ args w, (callFunc d args).run Try.prog w = .ok (.enter d args) w) (hdo : ∀ W set, Kept (fun k => k < w0.heap.size) w0 W → Calls Try.prog d (#[.int .i64 set] ++ caps) W fun e W' => e = .returned (.bool (D set)) ∧ Kept All W W')
    (hl : Nums w0 L l.length (ix l)) (hlen : l.length ≤ 100) (hx : ∀ k, k < l.length → 0 ≤ ix l k ∧ ix l k ≤ 11) (hm : many ≤ 100) :
    ∀ (r i : Nat) (set : Int) (xs : List Int) (W : World), xs.length + r = many → i ≤ l.length → FEnv w0 W l L c many (.func (.func d) #[] caps) → OwnAt w0 W xs →
    Calls Try.prog 73 #[.int .i64 i, .int .i64 set, ptr (w0.heap.size + 3), ptr (w0.heap.size + 1), ptr (w0.heap.size + 2), ptr w0.heap.size, ptr (w0.heap.size + 4)] W
      fun e W' => PickPost w0 l L c many (.func (.func d) #[] caps) xs e W' (pickAt D l r i set xs) := by
  intro r
  induction r with
  | zero =>
    intro i set xs W hxr hi he ⟨v, hov, hor⟩
    obtain ⟨A, ac, rfl, -⟩ := owns_nums hor
    have d0 := he.bd.at 0 rfl
    have m0 := he.bm.at 0 rfl
    have v0 := hov.at 0 rfl
    have hme : ((xs.length : Int) == (many : Int)) = true := by simp; omega
    have hcall := hdo W set he.kept
    go_enter Try.func73, Try.ntmps73
    go_wp2_with fail
    refine hcall.mono ?_
    rintro e W' ⟨rfl, hk⟩
    go_wp2_with fail
    go_ret
    have hE := he.step hk (fun _ _ _ => trivial)
    have hO : OwnAt w0 W' xs := OwnAt.step ⟨_, hov, hor⟩ hk
    unfold pickAt
    cases hD : D set with
    | true => exact ⟨rfl, hE, hO⟩
    | false => exact ⟨rfl, hE, hO⟩
  | succ r ih =>
    intro i set xs W hxr hi he ⟨v, hov, hor⟩
    obtain ⟨A, ac, rfl, -⟩ := owns_nums hor
    have m0 := he.bm.at 0 rfl
    have v0 := hov.at 0 rfl
    have hme : ((xs.length : Int) == (many : Int)) = false := by simp; omega
    have hO : OwnAt w0 W xs := ⟨_, hov, hor⟩
    go_enter Try.func73, Try.ntmps73
    go_wp2_with fail
    clear m0 v0 hme hov hor
    obtain ⟨P, hP⟩ : ∃ P, (fun k => pickAt D l r (k + 1) (setBit set (ix l k)) (xs ++ [ix l k])) = P := ⟨_, rfl⟩
    have HPI : Hid (pickAt D l (r + 1) i set xs = pickGo P (l.length - i) i) := by rw [pickAt, hP]; exact Lib.hid rfl
    have HPK : Hid (∀ k, P k = pickAt D l r (k + 1) (setBit set (ix l k)) (xs ++ [ix l k])) := by subst hP; exact fun _ => rfl
    clear hP
    go_loopw [10] (fun k wr => ∃ j : Nat, i ≤ j ∧ j ≤ l.length ∧ k = .int .i64 j ∧ FEnv w0 wr l L c many (.func (.func d) #[] caps) ∧ OwnAt w0 wr xs ∧ Hid (pickGo P (l.length - i) i = pickGo P (l.length - j) j)) (fun k _ => l.length - (intOf k).toNat)
    case atStart => exact ⟨i, Nat.le_refl _, hi, rfl, he, hO, Lib.hid rfl⟩
    case round =>
      obtain ⟨j, hij, hj, rfl, her, hor, HR⟩ := hrel
      have l0 := her.bl.at 0 rfl
      by_cases hlt : j < l.length
      · obtain ⟨b, off, rfl, hc⟩ := hl (by omega)
        have hb : b < w0.heap.size := lt_of_cell (hc j hlt)
        have cj := her.kept.cell (hc j hlt) hb
        obtain ⟨x0, x1⟩ := hx j hlt
        have hji : (j : Int) < (l.length : Int) := by omega
        obtain ⟨v, hov, horr⟩ := hor
        obtain ⟨A', ac', rfl, -⟩ := owns_nums horr
        have v0 := hov.at 0 rfl
        have vz := hov.frozen 0
        have vl := hov.lt
        obtain ⟨i0, hi0, hz0, hz1, hz2⟩ := info_parts info3
        go_wp2_with fail
        go_region_law ((refine step_append_lies _ (by rfl) _ _ _ (by rfl) (w0.heap.size + 5) 3 i0 _ 1 8 Try.underlying28 hi0 hz0 hz1 hz2 rfl (by omega) (.slice A' xs.length ac') xs.length (encN xs) (by rfl) ((horr.alloc _).drew) ⟨wr.heap.size, 0, none⟩ 1 1 [.int .i64 (ix l j)] (by rfl) (by rfl) (World.news_of_block (cs := #[.int .i64 (ix l j)]) (t := 3) (fr := (0, 0)) (heap_alloc_new _ _)) (by simp [Value.oneCell']) (by omega) (by unfold maxLen; omega) (by omega) (by simp; omega) (wr.heap.size + 1) (by simp) ?_; intro g cap w1 hown hgrow hat hlt1; have hkA : Kept (fun k => k < w0.heap.size + 5) wr w1 := (((Kept.refl _ wr).alloc _).drew).grown hgrow (fun k hk _ hn => by have := (owns_lt horr hk).1; omega); have v1 := hkA.cell v0 (by simp); have vz1 := (hkA.frozen vl (by simp)).trans vz))
        all_goals
          obtain ⟨hO2, hK2⟩ := own_append hov hown hkA
          clear hown hgrow hat hlt1 hkA v1 vz1 v0 vz hov horr cj l0
          generalize w1.setCell ⟨w0.heap.size + 3, 0, none⟩ (.slice (some ⟨g, 0, none⟩) (xs.length + 1) cap) = w2 at hO2 hK2 ⊢
          have he2 := her.step hK2 (fun k h1 h2 => ⟨h1, h2⟩)
          have n0 := he2.bn.at 0 rfl
          have l1 := he2.bl.at 0 rfl
          have cj2 := he2.kept.cell (hc j hlt) hb
          have ihc := ih (j + 1) (setBit set (ix l j)) (xs ++ [ix l j]) w2.drew (by simp; omega) (by omega) (he2.step (Kept.refl All _).drew (fun _ _ _ => trivial)) (hO2.step (Kept.refl All _).drew)
          rw [Int.natCast_add] at ihc
          go_wp2_with fail
          refine wp_tail 10 (by kernel_rfl) (by kernel_rfl) ?_
          simp only [List.take_succ_cons, List.take_zero, List.drop_succ_cons, List.drop_zero]
          repeat still_step
          refine wpStill_nil ?_
          go_wp2_with fail
          refine ihc.mono ?_
          clear ihc n0 l1 cj2 ih
          rintro e w3 hp3
          have hpk := HPK.out j
          have hgo : pickGo P (l.length - j) j = match P j with | some ys => some ys | none => pickGo P (l.length - (j + 1)) (j + 1) := by
            rw [show l.length - j = (l.length - (j + 1)) + 1 by omega, pickGo]
          cases hq : pickAt D l r (j + 1) (setBit set (ix l j)) (xs ++ [ix l j]) with
          | some ys =>
            rw [hq] at hp3
            obtain ⟨rfl, hE3, hO3⟩ := hp3
            have HF : Hid (pickAt D l (r + 1) i set xs = some ys) := by rw [HPI.out, HR.out, hgo, hpk, hq]; exact Lib.hid rfl
            clear hgo hpk hq
            go_wp2_with fail
            go_ret
            rw [HF.out]
            exact ⟨rfl, hE3, hO3⟩
          | none =>
            rw [hq] at hp3
            obtain ⟨rfl, hE3, v3, hov3, hor3⟩ := hp3
            have HF : Hid (pickGo P (l.length - i) i = pickGo P (l.length - (j + 1)) (j + 1)) := by rw [HR.out, hgo, hpk, hq]; exact Lib.hid rfl
            clear hgo hpk hq
            obtain ⟨g3, c3, rfl, hg3, -⟩ := hor3.form (by simp)
            have y0 := hov3.at 0 rfl
            have yz := hov3.frozen 0
            have hcap : (xs ++ [ix l j]).length ≤ c3 := by
              rcases hor3.2 with ⟨h, -⟩ | ⟨_, _, _, h, _, _, h1, _⟩
              · cases h
              · injection h with _ _ h; rw [h]; exact h1
            have hor4 := owns_pop hor3
            rw [List.length_append, List.length_singleton] at y0 hcap
            go_wp2_with fail
            have hks : Kept (fun k => k ≠ w0.heap.size + 3) w3 (w3.setCell ⟨w0.heap.size + 3, 0, none⟩ (.slice (some ⟨g3, 0, none⟩) xs.length c3)) := (Kept.refl _ _).setCell (fun _ h => h rfl) _
            refine ⟨⟨j + 1, by omega, by omega, by go_num, hE3.step hks (fun k _ h => h), ⟨_, hov3.set 0 _, owns_kept hor4 hks (fun q hq => by simp [Value.ownBlock] at hq; omega)⟩, HF⟩, by simp only [intOf]; omega⟩
      · obtain rfl : j = l.length := by omega
        have HF : Hid (pickAt D l (r + 1) i set xs = none) := by rw [HPI.out, HR.out, Nat.sub_self, pickGo]; exact Lib.hid rfl
        go_wp2_with fail
        go_ret
        rw [HF.out]
        exact ⟨rfl, her, hor⟩

/-- what first answers: none where many is 0 -/
def pick (D : Int → Bool) (l : List Int) (many : Nat) : Option (List Int) := if many = 0 then none else pickAt D l many 0 0 []

def FirstPost (w0 : World) (e : Ending) (W' : World) : Option (List Int) → Prop
  | some ys => ∃ v, e = .returned v ∧ W'.ownsRow w0.heap.size 3 1 v ys.length (encN ys)
  | none => e = .returned (.slice none 0 0)

set_option maxHeartbeats 2000000 in
theorem first_any (hdf : ∀ args w, (callFunc d args).run Try.prog w = .ok (.enter d args) w) (hdo : ∀ W set, Kept (fun k => k < w0.heap.size) w0 W → Calls Try.prog d (#[.int .i64 set] ++ caps) W fun e W' => e = .returned (.bool (D set)) ∧ Kept All W W')
    (hl : Nums w0 L l.length (ix l)) (hlen : l.length ≤ 100) (hx : ∀ k, k < l.length → 0 ≤ ix l k ∧ ix l k ≤ 11) (hm : many ≤ 100) :
    Calls Try.prog 48 #[.slice L l.length c, .int .i64 many, .func (.func d) #[] caps] w0 fun e W' => FirstPost w0 e W' (pick D l many) ∧ Kept All w0 W' := by
  by_cases h0 : many = 0
  · have hz : ((many : Int) == 0) = true := by simp [h0]
    have HP : Hid (pick D l many = none) := by rw [pick, if_pos h0]; exact Lib.hid rfl
    clear h0
    go_enter Try.func48, Try.ntmps48
    go_wp2_with fail
    go_ret
    rw [HP.out]
    exact ⟨rfl, (((((Kept.refl _ _).alloc _).alloc _).alloc _).alloc _).alloc _⟩
  · have hz : ((many : Int) == 0) = false := by simp; omega
    have HP : Hid (pick D l many = pickAt D l many 0 0 []) := by rw [pick, if_neg h0]; exact Lib.hid rfl
    clear h0
    obtain ⟨W, hW⟩ : ∃ W, ((((w0.alloc (.cells #[.slice L l.length c] 28)).alloc (.cells #[.int .i64 many] 3)).alloc (.cells #[.func (.func d) #[] caps] 94)).alloc (.cells #[.slice none 0 0] 28)).alloc (.cells #[.func (.func 73) #[] #[ptr (w0.heap.size + 3), ptr (w0.heap.size + 1), ptr (w0.heap.size + 2), ptr w0.heap.size, ptr (w0.heap.size + 4)]] 114) = W := ⟨_, rfl⟩
    have hK : Kept All w0 W := by rw [← hW]; exact (((((Kept.refl _ _).alloc _).alloc _).alloc _).alloc _).alloc _
    have hE : FEnv w0 W l L c many (.func (.func d) #[] caps) := by
      rw [← hW]
      exact ⟨(((((Kept.refl _ _).alloc _).alloc _).alloc _).alloc _).alloc _, ((((Blk.new _ _ _).alloc _).alloc _).alloc _).alloc _, (((Blk.new' _ _ (by simp)).alloc _).alloc _).alloc _, ((Blk.new' _ _ (by simp)).alloc _).alloc _, Blk.new' _ _ (by simp)⟩
    have hO : OwnAt w0 W [] := by
      rw [← hW]
      exact ⟨.slice none 0 0, (Blk.new' _ _ (by simp)).alloc _, by simp, .inl ⟨rfl, rfl⟩⟩
    have hcall := pick_any hdf hdo hl hlen hx hm many 0 0 [] W (by simp) (by omega) hE hO
    clear hE hO
    subst hW
    have HK := Lib.hid hK
    clear hK
    go_enter Try.func48, Try.ntmps48
    go_wp2_with fail
    refine hcall.mono ?_
    clear hcall
    rintro e W' hp
    have hb1 : ∀ {ys : List Int} {W' : World}, FEnv w0 W' l L c many (.func (.func d) #[] caps) → Kept All w0 W' := fun h => ⟨h.kept.os, h.kept.tape, h.kept.output, h.kept.size, fun k hk _ => h.kept.block k hk hk⟩
    cases hq : pickAt D l many 0 0 [] with
    | some ys =>
      rw [hq] at hp HP
      obtain ⟨rfl, hE, v, hov, hor⟩ := hp
      have hkk : Kept All w0 W' := hb1 (ys := []) hE
      have y0 := hov.at 0 rfl
      clear hq hb1
      go_wp2_with fail
      go_ret
      rw [HP.out]
      exact ⟨⟨v, rfl, owns_low hor (by omega)⟩, hkk⟩
    | none =>
      rw [hq] at hp HP
      obtain ⟨rfl, hE, -⟩ := hp
      have hkk : Kept All w0 W' := hb1 (ys := []) hE
      clear hq hb1
      go_wp2_with fail
      go_ret
      rw [HP.out]
      exact ⟨rfl, hkk⟩
end
end Go.Proofs.Ytiajiahfmfckjaa
