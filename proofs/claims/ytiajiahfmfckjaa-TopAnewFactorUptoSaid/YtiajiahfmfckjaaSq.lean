/- What package factor computes, as plain functions: valid houses, the numbers of days, truths. -/
import Derived.Test.YtiajiahfmfckjaaSp
namespace Go.Proofs.Ytiajiahfmfckjaa
open Go.RowKit

structure Valid (h : House) : Prop where
  nw : h.ws.length ≤ 3
  nd : h.days.length ≤ 4
  wat : ∀ i, i < h.ws.length → 1 ≤ (h.w i).lo ∧ (h.w i).hi ≤ 300 ∧ (h.w i).lo ≤ (h.w i).hi ∧ (h.w i).hi ≤ (h.w i).lo + 6 ∧ 0 ≤ (h.w i).off ∧ (h.w i).off ≤ 9
  dl : ∀ i, i < h.days.length → (h.d i).length = h.ws.length
  cnt : ∀ i, i < h.days.length → ∀ j, j < h.ws.length → -1 ≤ ix (h.d i) j ∧ ix (h.d i) j ≤ 120

theorem firstErr_zero {f : Nat → Int} {n : Nat} : ∀ (b i : Nat), n ≤ b + i → (firstErr f n b i).2 = 0 → ∀ q, i ≤ q → q < n → f q = 0
  | 0, i, hb, _, q, h1, h2 => by omega
  | b + 1, i, hb, h, q, h1, h2 => by
    rw [firstErr, if_pos (by omega)] at h
    by_cases hz : f i = 0
    · rw [if_neg (by simp [hz])] at h
      by_cases e : q = i
      · subst e; exact hz
      · exact firstErr_zero b (i + 1) (by omega) h q (by omega) h2
    · rw [if_pos hz] at h
      exact absurd h hz

theorem valid_of_chk {h : House} (hc : (chk h).2.2 = 0) : Valid h := by
  unfold chk at hc
  have h1 : (failErr (watErr h) h.ws.length 3).2 = 0 := Decidable.byContradiction fun h1 => by rw [if_pos h1] at hc; exact absurd hc h1
  rw [if_neg (by simp [h1])] at hc
  have h2 : (failErr (dayErr h) h.days.length 4).2 = 0 := Decidable.byContradiction fun h2 => by rw [if_pos h2] at hc; exact absurd hc h2
  have n3 : ¬ 3 < h.ws.length := fun hl => by simp [failErr, hl] at h1
  have n4 : ¬ 4 < h.days.length := fun hl => by simp [failErr, hl] at h2
  rw [failErr, if_neg n3] at h1
  rw [failErr, if_neg n4] at h2
  have hw := firstErr_zero _ _ (by omega) h1
  have hd := firstErr_zero _ _ (by omega) h2
  have hdl : ∀ i, i < h.days.length → (h.d i).length = h.ws.length ∧ anyOut (-1) 120 (ix (h.d i)) (h.d i).length = false := fun i hi => by
    have := hd i (by omega) hi
    unfold dayErr at this
    split at this
    · cases this
    · split at this
      · cases this
      · rename_i e1 e2; exact ⟨by omega, by simpa using e2⟩
  refine ⟨by omega, by omega, fun i hi => ?_, fun i hi => (hdl i hi).1, fun i hi j hj => ?_⟩
  · have := hw i (by omega) hi
    unfold watErr at this
    split at this
    · cases this
    · split at this
      · cases this
      · split at this
        · cases this
        · split at this
          · cases this
          · rename_i e1 e2 e3 e4
            simp only [flaw, Bool.or_eq_true, not_or, Bool.not_eq_true] at e3 e4
            have a1 := outB_false e3.1.1
            have a2 := outB_false e3.1.2
            have a3 := outB_false e3.2
            have a4 := outB_false e4
            have : wrap64 ((h.w i).hi - (h.w i).lo) = (h.w i).hi - (h.w i).lo := by unfold wrap64; omega
            rw [this] at a4
            omega
  · obtain ⟨hl, ha⟩ := hdl i hi
    exact outB_false (anyOut_all ha j (by omega))

/-- three numbers -/
structure F3 where
  a : Int
  b : Int
  c : Int deriving DecidableEq
def F3.get (f : F3) : Nat → Int
  | 0 => f.a
  | 1 => f.b
  | _ => f.c
def F3.set (f : F3) (i : Nat) (v : Int) : F3 :=
  match i with
  | 0 => { f with a := v }
  | 1 => { f with b := v }
  | _ => { f with c := v }
theorem F3.get_set {f : F3} {i j : Nat} {v : Int} (hi : i < 3) (hj : j < 3) : (f.set i v).get j = if j = i then v else f.get j := by
  obtain rfl | rfl | rfl : i = 0 ∨ i = 1 ∨ i = 2 := by omega
  all_goals obtain rfl | rfl | rfl : j = 0 ∨ j = 1 ∨ j = 2 := by omega
  all_goals rfl
theorem F3.ext' {f g : F3} (h : ∀ i, i < 3 → f.get i = g.get i) : f = g := by
  obtain ⟨a, b, c⟩ := f
  obtain ⟨a', b', c'⟩ := g
  have h0 := h 0 (by omega)
  have h1 := h 1 (by omega)
  have h2 := h 2 (by omega)
  simp only [F3.get] at h0 h1 h2
  simp [h0, h1, h2]

/-- the spans of four days -/
structure N4 where
  a : Int × Int
  b : Int × Int
  c : Int × Int
  d : Int × Int deriving DecidableEq
def N4.get (f : N4) : Nat → Int × Int
  | 0 => f.a
  | 1 => f.b
  | 2 => f.c
  | _ => f.d
def N4.set (f : N4) (i : Nat) (v : Int × Int) : N4 :=
  match i with
  | 0 => { f with a := v }
  | 1 => { f with b := v }
  | 2 => { f with c := v }
  | _ => { f with d := v }
def N4.zero : N4 := ⟨(0, 0), (0, 0), (0, 0), (0, 0)⟩

/-- is bit k of a number set? -/
def bitOf (n : Int) (k : Nat) : Bool := bits BinOp.and .i64 (n / 2 ^ k) 1 == 1
def skips (h : House) (but : Int) (at_ i : Nat) : Bool := (ix (h.d at_) i == -1) || bitOf but (at_ * h.ws.length + i)
def dayStep (h : House) (but : Int) (f : F3) (at_ i : Nat) (s : Int × Int) : Int × Int :=
  if skips h but at_ i then s
  else (if s.1 < wrap64 (f.get i * (ix (h.d at_) i - (h.w i).off)) then wrap64 (f.get i * (ix (h.d at_) i - (h.w i).off)) else s.1, if wrap64 (f.get i * (ix (h.d at_) i + (h.w i).off)) < s.2 then wrap64 (f.get i * (ix (h.d at_) i + (h.w i).off)) else s.2)
def dayGo (h : House) (but : Int) (f : F3) (at_ : Nat) : Nat → Int × Int
  | 0 => (0, 39999)
  | i + 1 => dayStep h but f at_ i (dayGo h but f at_ i)
def dayN (h : House) (but : Int) (f : F3) (at_ : Nat) : Int × Int := dayGo h but f at_ h.ws.length
def numGo (h : House) (but : Int) (f : F3) : Nat → Nat → N4 → N4
  | 0, _, n => n
  | b + 1, d, n =>
    if d < h.days.length then
      (if (dayN h but f d).2 < (dayN h but f d).1 then (n.set d (dayN h but f d)).set 0 (1, 0) else numGo h but f b (d + 1) (n.set d (dayN h but f d)))
    else n
def numbersOf (h : House) (but : Int) (f : F3) : N4 := numGo h but f 4 0 N4.zero
def dead (h : House) (n : N4) : Bool := decide (0 < h.days.length) && (n.a == (1, 0))
def spanL (lo hi : Int) : List Int := (List.range (hi - lo + 1).toNat).map fun (k : Nat) => lo + (k : Int)
/-- all truths whose factors before the last b observers' are those of f -/
def enum (h : House) (but : Int) : Nat → F3 → List (F3 × N4)
  | 0, f => if dead h (numbersOf h but f) then [] else [(f, numbersOf h but f)]
  | b + 1, f => (spanL (h.w (h.ws.length - (b + 1))).lo (h.w (h.ws.length - (b + 1))).hi).flatMap fun n => enum h but b (f.set (h.ws.length - (b + 1)) n)
def truths (h : House) (but : Int) : List (F3 × N4) := enum h but h.ws.length ⟨0, 0, 0⟩

theorem enum_congr {h : House} {but : Int} (hw : h.ws.length ≤ 3) : ∀ (b : Nat) (f g : F3), b ≤ h.ws.length → (∀ i, i < 3 → (i < h.ws.length - b ∨ h.ws.length ≤ i) → f.get i = g.get i) → enum h but b f = enum h but b g
  | 0, f, g, _, hfg => by
    have : f = g := F3.ext' fun i hi => hfg i hi (by omega)
    rw [this]
  | b + 1, f, g, hb, hfg => by
    unfold enum
    congr 1
    funext n
    refine enum_congr hw b _ _ (by omega) fun i hi hc => ?_
    rw [F3.get_set (by omega) hi, F3.get_set (by omega) hi]
    split
    · rfl
    · exact hfg i hi (by omega)

/-- the least span with all of some spans -/
def wideStep (s x : Int × Int) : Int × Int := (if x.1 < s.1 then x.1 else s.1, if s.2 < x.2 then x.2 else s.2)
def wideL (l : List (Int × Int)) : Int × Int := l.foldl wideStep (9223372036854775807, -1)
theorem wideL_snoc (l : List (Int × Int)) (x : Int × Int) : wideL (l ++ [x]) = wideStep (wideL l) x := by simp [wideL]

/-- one of the first n pairs is a number that is not below its bound -/
def badIx (f : Nat → Int) : Nat → Bool
  | 0 => false
  | n + 1 => badIx f n || outB 0 (f (2 * n + 1) - 1) (f (2 * n))
theorem badIx_false {f : Nat → Int} : ∀ {n : Nat}, (∀ j, j < n → outB 0 (f (2 * j + 1) - 1) (f (2 * j)) = false) → badIx f n = false
  | 0, _ => rfl
  | n + 1, h => by simp [badIx, badIx_false (n := n) (fun j hj => h j (by omega)), h n (by omega)]
theorem badIx_true {f : Nat → Int} {k : Nat} (hk : outB 0 (f (2 * k + 1) - 1) (f (2 * k)) = true) : ∀ {n : Nat}, k < n → badIx f n = true
  | 0, h => by omega
  | n + 1, h => by
    by_cases e : k = n
    · subst e; simp [badIx, hk]
    · simp [badIx, badIx_true hk (n := n) (by omega)]
theorem badIx_all {f : Nat → Int} : ∀ {n : Nat}, badIx f n = false → ∀ j, j < n → outB 0 (f (2 * j + 1) - 1) (f (2 * j)) = false
  | 0, _, j, hj => by omega
  | n + 1, h, j, hj => by
    simp [badIx] at h
    by_cases e : j = n
    · subst e; exact h.2
    · exact badIx_all h.1 j (by omega)
def entErr (h : House) (f : Nat → Int) (n : Nat) (other : Int) : Int :=
  if (chk h).2.2 ≠ 0 then (chk h).2.2 else if badIx f n then 4 else if other ≠ 0 then other else if (truths h 0).isEmpty then 8 else 0
theorem entErr_zero {h : House} {f : Nat → Int} {n : Nat} {other : Int} (hz : entErr h f n other = 0) : Valid h ∧ badIx f n = false ∧ other = 0 ∧ truths h 0 ≠ [] := by
  unfold entErr at hz
  split at hz
  · rename_i e; exact absurd hz e
  · rename_i e1
    split at hz
    · cases hz
    · rename_i e2
      split at hz
      · rename_i e3; exact absurd hz e3
      · rename_i e3
        split at hz
        · cases hz
        · rename_i e4
          exact ⟨valid_of_chk (by simpa using e1), by simpa using e2, by simpa using e3, by intro hn; rw [hn] at e4; simp at e4⟩
end Go.Proofs.Ytiajiahfmfckjaa
