/- Arguments read as data: a slice's elements, cell by cell. It states nothing of the program. -/
import Derived.Test.YtiajiahfmfckjaaRows
import Derived.Test.YtiajiahfmfckjaaBa
import Derived.Deep.Slices
import Derived.ChangeArms
import Derived.DataReads
namespace Go.Proofs.Ytiajiahfmfckjaa
open Go.RowKit Go.ChangeShapes Go.WideShapes Go.Deep

section
variable {H : Type} {enc : TypeId × Value → H} {P : Program} {w : World} {base : Nat} {spare : Nat → Bool} {held : Bool}

/-- a slice that was read: its elements' cells, and what each element reads as -/
structure RowsAt (w : World) (S : Nat) (Q : List Value → DataW H → Prop) (A : Option Addr) (n c : Nat) (E : Nat → List Value) (D : Nat → DataW H) (rest : List (DataW H)) (d : DataW H) : Prop where
  cap : n ≤ c
  max : c ≤ maxLen
  data : (d = .nil ∧ n = 0) ∨ d = .slice ((List.range n).map D) rest
  at_ : 0 < n → ∃ b off, A = some ⟨b, off, none⟩ ∧ ∀ i, i < n → ∀ j, j < S → w.cell? ⟨b, off + (i * S + j), none⟩ = (E i)[j]?
  elem : ∀ i, i < n → Q (E i) (D i) ∧ (E i).length = S

theorem rd_rows {t e : TypeId} {fuel : Nat} {cs : List Value} {x : DataW H × List MemPlace} {S : Nat} (ht : P.underlying t = some (.slice e)) (hS : P.cellsOf e = S) (hpos : 0 < S)
    (Q : List Value → DataW H → Prop) (hQ : ∀ n cs y, DataW.trod enc P w base spare held n e cs = some y → Q cs y.1) (h : DataW.trod enc P w base spare held fuel t cs = some x) :
    ∃ A n c E D rest, cs = [.slice A n c] ∧ RowsAt w S Q A n c E D rest x.1 := by
  rcases open_slice ht h with ⟨rfl, rfl⟩ | ⟨a, len, cap, m, n, D, Pl, rfl, hb, hl, hm, hmm, rfl, hi⟩
  · exact ⟨none, 0, 0, fun _ => [], fun _ => .nil, [], rfl, ⟨Nat.le_refl _, Nat.zero_le _, .inl ⟨rfl, rfl⟩, fun h => by omega, fun i hi => by omega⟩⟩
  · have hlm : len ≤ m := by rw [hmm]; split <;> omega
    have hex : ∀ i, ∃ cs', i < len → w.cells? base (a.add (i * P.cellsOf e)) (P.cellsOf e) = some cs' ∧ DataW.trod enc P w base spare held n e cs' = some (D i, Pl i) := fun i => by
      by_cases hlt : i < len
      · obtain ⟨cs', h1⟩ := hi i (by omega)
        exact ⟨cs', fun _ => h1⟩
      · exact ⟨[], fun h => absurd h hlt⟩
    have hE : ∃ E : Nat → List Value, ∀ i, i < len → w.cells? base (a.add (i * P.cellsOf e)) (P.cellsOf e) = some (E i) ∧ DataW.trod enc P w base spare held n e (E i) = some (D i, Pl i) :=
      ⟨fun i => Classical.choose (hex i), fun i => Classical.choose_spec (hex i)⟩
    obtain ⟨E, hE⟩ := hE
    subst hS
    refine ⟨some a, len, cap, E, D, (List.range (m - len)).map fun j => D (len + j), rfl, ⟨hl, hm, .inr rfl, fun hn => ?_, fun i hlt => ?_⟩⟩
    · obtain ⟨b, off, spot⟩ := a
      obtain ⟨-, hl0, hc0⟩ := World.cells?_some (hE 0 hn).1
      have h00 := hc0 0 hpos
      have hv : (E 0)[0]? = some (E 0)[0] := List.getElem?_eq_getElem (by omega)
      rw [hv] at h00
      have hspot : spot = none := by simpa [Addr.add] using World.cell?_spot h00
      subst hspot
      refine ⟨b, off, rfl, fun i hlt j hj => ?_⟩
      obtain ⟨-, hl1, hc1⟩ := World.cells?_some (hE i hlt).1
      have hadd : ∀ (o k : Nat), (⟨b, o, none⟩ : Addr).add k = ⟨b, o + k, none⟩ := fun o k => by
        unfold Addr.add
        split
        · rename_i h0; simp [h0]
        · rfl
      rw [← hc1 j hj, hadd, hadd, Nat.add_assoc]
    · obtain ⟨h1, h2⟩ := hE i hlt
      exact ⟨hQ _ _ _ h2, (World.cells?_some h1).2.1⟩

/-- a field of a struct that was read -/
theorem fld {fs : Array Field} {n : Nat} {cs : List Value} {xs : List (DataW H × List MemPlace)} (hg : ∀ (i : Nat) (f : Field), fs[i]? = some f → DataW.trod enc P w base spare held n f.type ((cs.drop f.offset).take (P.cellsOf f.type)) = xs[i]?)
    (i : Nat) (f : Field) (hf : fs[i]? = some f) (t o k : Nat) (y : DataW H × List MemPlace) (cs' : List Value) (ht : f.type = t) (ho : f.offset = o) (hk : P.cellsOf t = k) (hcs : (cs.drop o).take k = cs') (hy : xs[i]? = some y) :
    DataW.trod enc P w base spare held n t cs' = some y := by
  subst ht ho hk hcs
  rw [hg i f hf, hy]
end
end Go.Proofs.Ytiajiahfmfckjaa
