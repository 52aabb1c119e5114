/- The plain law and the walk of package factor's Wrong. -/
import Derived.Test.YtiajiahfmfckjaaW1
import Derived.Test.YtiajiahfmfckjaaBo
import Derived.OwnWalk
namespace Go.Proofs.Ytiajiahfmfckjaa
open Go.RowKit
set_option maxRecDepth 10000

/-- the places of the first n counts of a day that were made -/
def cellsRow (h : House) (d : Nat) : Nat → List Int
  | 0 => []
  | n + 1 => if ix (h.d d) n = -1 then cellsRow h d n else cellsRow h d n ++ [((d * h.ws.length + n : Nat) : Int)]
def cellsAll (h : House) : Nat → List Int
  | 0 => []
  | d + 1 => cellsAll h d ++ cellsRow h d (h.d d).length
theorem cellsRow_len (h : House) (d : Nat) : ∀ n, (cellsRow h d n).length ≤ n
  | 0 => Nat.le_refl _
  | n + 1 => by
    have := cellsRow_len h d n
    unfold cellsRow
    split
    · omega
    · simp; omega
theorem cellsRow_mem (h : House) (d : Nat) : ∀ n x, x ∈ cellsRow h d n → ∃ k, k < n ∧ x = ((d * h.ws.length + k : Nat) : Int)
  | 0, x, hx => by cases hx
  | n + 1, x, hx => by
    unfold cellsRow at hx
    split at hx
    · obtain ⟨k, h1, h2⟩ := cellsRow_mem h d n x hx
      exact ⟨k, by omega, h2⟩
    · rcases List.mem_append.1 hx with hx | hx
      · obtain ⟨k, h1, h2⟩ := cellsRow_mem h d n x hx
        exact ⟨k, by omega, h2⟩
      · exact ⟨n, by omega, by simpa using hx⟩
theorem cellsAll_len {h : House} (hv : Valid h) : ∀ n, n ≤ h.days.length → (cellsAll h n).length ≤ 3 * n
  | 0, _ => Nat.le_refl _
  | n + 1, hn => by
    have h1 := cellsAll_len hv n (by omega)
    have h2 := cellsRow_len h n (h.d n).length
    have h3 := hv.dl n (by omega)
    have h4 := hv.nw
    simp [cellsAll]; omega
theorem cellsAll_mem {h : House} (hv : Valid h) : ∀ n, n ≤ h.days.length → ∀ x, x ∈ cellsAll h n → 0 ≤ x ∧ x ≤ 11
  | 0, _, x, hx => by cases hx
  | n + 1, hn, x, hx => by
    rcases List.mem_append.1 hx with hx | hx
    · exact cellsAll_mem hv n (by omega) x hx
    · obtain ⟨k, h1, rfl⟩ := cellsRow_mem h n _ x hx
      have h3 := hv.dl n (by omega)
      have h4 := hv.nw
      have h5 := hv.nd
      have : n * h.ws.length ≤ 3 * 3 := Nat.mul_le_mul (by omega) h4
      omega

/-- the answer for so many counts -/
def wrongAt (D : Int → Bool) (l : List Int) (m : Nat) : Option (List Int) :=
  match pick D l m with
  | some ys => some ys
  | none => if m = 0 ∧ D 0 = true then some [] else none
def wrongGo (D : Int → Bool) (l : List Int) : Nat → Nat → List Int
  | 0, _ => l
  | b + 1, m => match wrongAt D l m with
    | some ys => ys
    | none => wrongGo D l b (m + 1)
def wrongL (h : House) : List Int := wrongGo (fun set => !(truths h set).isEmpty) (cellsAll h h.days.length) ((cellsAll h h.days.length).length + 1) 0
/-- what Wrong answers -/
def wrongA (h : House) : List Int × Int := if (chk h).2.2 ≠ 0 then ([], (chk h).2.2) else (wrongL h, 0)

theorem pickGo_len {P : Nat → Option (List Int)} {m : Nat} : ∀ (b i : Nat) (ys : List Int), (∀ k zs, P k = some zs → zs.length = m) → pickGo P b i = some ys → ys.length = m
  | 0, _, _, _, h => by cases h
  | b + 1, i, ys, hP, h => by
    unfold pickGo at h
    split at h
    · rename_i zs hz
      cases h
      exact hP _ _ hz
    · exact pickGo_len b (i + 1) ys hP h
theorem pickAt_len {D : Int → Bool} {l : List Int} : ∀ (r i : Nat) (set : Int) (xs ys : List Int), pickAt D l r i set xs = some ys → ys.length = xs.length + r
  | 0, i, set, xs, ys, h => by
    unfold pickAt at h
    split at h
    · cases h; rfl
    · cases h
  | r + 1, i, set, xs, ys, h => by
    unfold pickAt at h
    exact pickGo_len _ _ ys (fun k zs hz => by have := pickAt_len r _ _ _ _ hz; simp at this; omega) h
theorem wrongAt_len {D : Int → Bool} {l : List Int} {m : Nat} {ys : List Int} (h : wrongAt D l m = some ys) : ys.length = m := by
  unfold wrongAt pick at h
  split at h
  · rename_i zs hz
    cases h
    split at hz
    · cases hz
    · simpa using pickAt_len _ _ _ _ _ hz
  · split at h
    · rename_i hm; cases h; exact hm.1.symm
    · cases h
theorem wrongGo_len {D : Int → Bool} {l : List Int} : ∀ (b m : Nat), m + b ≤ l.length + 1 → (wrongGo D l b m).length ≤ l.length
  | 0, _, _ => Nat.le_refl _
  | b + 1, m, hm => by
    unfold wrongGo
    split
    · rename_i ys hy; have := wrongAt_len hy; omega
    · exact wrongGo_len b (m + 1) (by omega)

theorem some49_any {h : House} {A : Option Addr} {c : Nat} {D : Option Addr} {d g : Nat} (hv : Valid h) (w : World) (hin : HIn w h A c D d) (hg : Blk w g 25 #[.slice A h.ws.length c, .slice D h.days.length d]) (set : Int) :
    Calls Try.prog 49 #[.int .i64 set, ptr g] w fun e w' => e = .returned (.bool (!(truths h set).isEmpty)) ∧ Kept All w w' := by
  have g0 := hg.at 0 rfl
  have g1 := hg.at 1 rfl
  go_enter Try.func49, Try.ntmps49
  go_wp2_with fail
  refine (look_any h set A c D d w hin).mono ?_
  rintro e w1 ⟨rfl, hk1, hz1, hp1⟩
  clear g0 g1
  go_wp2_with fail
  refine (some_any hv hp1 (by omega)).mono ?_
  rintro e w2 ⟨rfl, hs2, hk2, -⟩
  go_wp2_with fail
  go_ret
  exact ⟨rfl, hk1.weld hk2 (fun k hk => by omega)⟩
end Go.Proofs.Ytiajiahfmfckjaa
