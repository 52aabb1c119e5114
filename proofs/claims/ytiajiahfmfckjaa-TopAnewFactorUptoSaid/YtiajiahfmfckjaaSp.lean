/- What package factor computes, as plain functions on lists and numbers: houses, flaws, Check. -/
import Derived.Laws.RangeAny
import Derived.IntWalk
import Derived.WalkKit
namespace Go.Proofs.Ytiajiahfmfckjaa
open Go.RowKit

/-- element i of a list of numbers -/
def ix (xs : List Int) (i : Nat) : Int := xs.getD i 0

def outB (lo hi n : Int) : Bool := decide (n < lo) || decide (hi < n)
theorem outB_eq (lo hi n : Int) : outB lo hi n = (decide (n < lo) || decide (hi < n)) := rfl
theorem outB_false {lo hi n : Int} (h : outB lo hi n = false) : lo ≤ n ∧ n ≤ hi := by simpa [outB] using h
theorem outB_true {lo hi n : Int} (h : outB lo hi n = true) : n < lo ∨ hi < n := by simpa [outB] using h

/-- one of the first n numbers of f is not from lo to hi -/
def anyOut (lo hi : Int) (f : Nat → Int) : Nat → Bool
  | 0 => false
  | n + 1 => anyOut lo hi f n || outB lo hi (f n)
theorem anyOut_false {lo hi : Int} {f : Nat → Int} : ∀ {n : Nat}, (∀ j, j < n → outB lo hi (f j) = false) → anyOut lo hi f n = false
  | 0, _ => rfl
  | n + 1, h => by simp [anyOut, anyOut_false (n := n) (fun j hj => h j (by omega)), h n (by omega)]
theorem anyOut_true {lo hi : Int} {f : Nat → Int} {k : Nat} (hk : outB lo hi (f k) = true) : ∀ {n : Nat}, k < n → anyOut lo hi f n = true
  | 0, h => by omega
  | n + 1, h => by
    by_cases e : k = n
    · subst e; simp [anyOut, hk]
    · simp [anyOut, anyOut_true hk (n := n) (by omega)]
theorem anyOut_all {lo hi : Int} {f : Nat → Int} : ∀ {n : Nat}, anyOut lo hi f n = false → ∀ j, j < n → outB lo hi (f j) = false
  | 0, _, j, hj => by omega
  | n + 1, h, j, hj => by
    simp [anyOut] at h
    by_cases e : j = n
    · subst e; exact h.2
    · exact anyOut_all h.1 j (by omega)

/-- a rune of a name, at a place -/
def runeOK (i c : Int) : Bool := (decide (97 ≤ c) && decide (c ≤ 122)) || (decide (0 < i) && (decide (c = 46) || (decide (48 ≤ c) && decide (c ≤ 57))))
def nameGo (s : ByteArray) : Nat → Nat → Bool
  | 0, _ => true
  | b + 1, pos => if pos < s.size then (if runeOK pos (Utf8.decode s pos).1 then nameGo s b (pos + (Utf8.decode s pos).2) else false) else true
def nameOK (s : ByteArray) : Bool := nameGo s s.size 0 && !outB 1 16 s.size

structure Wat where
  name : ByteArray
  lo : Int
  hi : Int
  off : Int
instance : Inhabited Wat := ⟨⟨⟨#[]⟩, 0, 0, 0⟩⟩
structure House where
  ws : List Wat
  days : List (List Int)
def House.w (h : House) (i : Nat) : Wat := h.ws.getD i default
def House.d (h : House) (i : Nat) : List Int := h.days.getD i []

/-- one of the first n observers has that name -/
def named (h : House) (s : ByteArray) : Nat → Bool
  | 0 => false
  | n + 1 => named h s n || (h.w n).name.toList == s.toList
theorem named_false {h : House} {s : ByteArray} : ∀ {n : Nat}, (∀ j, j < n → ((h.w j).name.toList == s.toList) = false) → named h s n = false
  | 0, _ => rfl
  | n + 1, hh => by simp [named, named_false (n := n) (fun j hj => hh j (by omega)), hh n (by omega)]
theorem named_true {h : House} {s : ByteArray} {k : Nat} (hk : ((h.w k).name.toList == s.toList) = true) : ∀ {n : Nat}, k < n → named h s n = true
  | 0, hh => by omega
  | n + 1, hh => by
    by_cases e : k = n
    · subst e; simp [named, hk]
    · simp [named, named_true hk (n := n) (by omega)]

/-- flaw k of observer i -/
def flaw (h : House) (i : Nat) : Nat → Bool
  | 0 => !nameOK (h.w i).name
  | 1 => named h (h.w i).name i
  | 2 => outB 1 300 (h.w i).lo || outB 1 300 (h.w i).hi || outB 0 9 (h.w i).off
  | _ => outB 0 6 (wrap64 ((h.w i).hi - (h.w i).lo))
def watErr (h : House) (i : Nat) : Int :=
  if flaw h i 0 then 6 else if flaw h i 1 then 5 else if flaw h i 2 then 7 else if flaw h i 3 then 2 else 0
def dayErr (h : House) (i : Nat) : Int :=
  if (h.d i).length ≠ h.ws.length then 3 else if anyOut (-1) 120 (ix (h.d i)) (h.d i).length then 7 else 0

/-- the first of n things, from i on, with an error -/
def firstErr (f : Nat → Int) (n : Nat) : Nat → Nat → Int × Int
  | 0, _ => (0, 0)
  | b + 1, i => if i < n then (if f i ≠ 0 then ((i : Int), f i) else firstErr f n b (i + 1)) else (0, 0)
theorem firstErr_from {f : Nat → Int} {n : Nat} : ∀ (j : Nat), j ≤ n → (∀ q, q < j → f q = 0) → firstErr f n n 0 = firstErr f n (n - j) j
  | 0, _, _ => rfl
  | j + 1, hj, h => by
    rw [firstErr_from j (by omega) (fun q hq => h q (by omega)), show n - j = (n - (j + 1)) + 1 by omega, firstErr, if_pos (by omega), if_neg (by simp [h j (by omega)])]
theorem firstErr_hit {f : Nat → Int} {n j : Nat} (hj : j < n) (h : ∀ q, q < j → f q = 0) (hne : f j ≠ 0) : firstErr f n n 0 = ((j : Int), f j) := by
  rw [firstErr_from j (by omega) h, show n - j = (n - (j + 1)) + 1 by omega, firstErr, if_pos hj, if_pos hne]
theorem firstErr_none {f : Nat → Int} {n : Nat} (h : ∀ q, q < n → f q = 0) : firstErr f n n 0 = (0, 0) := by
  rw [firstErr_from n (by omega) h, Nat.sub_self, firstErr]
def failErr (f : Nat → Int) (n most : Nat) : Int × Int := if most < n then (0, 3) else firstErr f n n 0
def chk (h : House) : Int × Int × Int :=
  if (failErr (watErr h) h.ws.length 3).2 ≠ 0 then (1, failErr (watErr h) h.ws.length 3)
  else if (failErr (dayErr h) h.days.length 4).2 ≠ 0 then (2, failErr (dayErr h) h.days.length 4)
  else (0, 0, 0)
end Go.Proofs.Ytiajiahfmfckjaa
