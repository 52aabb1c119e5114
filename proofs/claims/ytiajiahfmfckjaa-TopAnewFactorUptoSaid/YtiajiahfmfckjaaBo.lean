/- Rows of the call's own: a copy of a whole row onto another one. It states nothing of the program. -/
import Derived.Test.YtiajiahfmfckjaaBa
import Derived.Laws.CopyOwn
import Derived.Laws.MakeOwn
namespace Go.Proofs.Ytiajiahfmfckjaa
open Go.RowKit

theorem setRow_kept {w : World} {g : Nat} (cs : Array Value) : Kept (fun k => k ≠ g) w (w.setRow g cs) :=
  ⟨rfl, rfl, rfl, by simp, fun k _ hne => setRow_other w g k cs hne⟩

theorem wpList_copy_whole {P : Program} {w : World} {ops : Array Oper} {rest : List Oper} {o : Oper} {a : Act} {Q : Exit → Act → World → Prop} (hgd : o.guard = none) (d s : Operand) (dT sT : TypeId)
    (ho : o.op = .call { callee := .builtin .copy, args := #[d, s], argTypes := #[dT, sT] }) (elem : TypeId) (hu : P.underlying dT = some (.slice elem)) (hsz : (P.info? elem).map (·.size) = some 1)
    (base base' g n : Nat) (sv : Value) (xs old : List Value) (hd : a.eval d = .slice (some ⟨g, 0, none⟩) n n) (hs : a.eval s = sv) (hsv : w.ownsRow base' elem 1 sv n xs) (hown : w.ownsRow base elem 1 (.slice (some ⟨g, 0, none⟩) n n) n old) (h1 : ∀ v ∈ xs, v.oneCell' = true)
    (h : ∀ w', w'.ownsRow base elem 1 (.slice (some ⟨g, 0, none⟩) n n) n xs → Kept (fun k => k ≠ g) w w' → wpList P ops Q rest (a.put o.dst (goInt n)) w') : wpList P ops Q (o :: rest) a w := by
  have hxs : xs.length = n := by simpa using hsv.1
  by_cases h0 : n = 0
  · subst h0
    obtain rfl : xs = [] := List.eq_nil_of_length_eq_zero hxs
    have hold : old = [] := List.eq_nil_of_length_eq_zero (by simpa using hown.1)
    rw [hold] at hown
    rcases hsv.2 with ⟨rfl, -⟩ | ⟨g', cap, cur, rfl, -⟩
    · exact wpList_copy_nothing hgd d s dT sT ho elem hu hsz _ _ 0 0 0 0 hd hs rfl (h w hown (Kept.refl _ _))
    · exact wpList_copy_nothing hgd d s dT sT ho elem hu hsz _ _ 0 0 0 cap hd hs rfl (h w hown (Kept.refl _ _))
  · rcases hsv.2 with ⟨-, e⟩ | ⟨g', cap, cur, rfl, -⟩
    · exact absurd e h0
    · rcases hown.2 with ⟨e, -⟩ | ⟨g2, cap2, cur2, hv, hb, hg, h2, h3, h4, h5⟩
      · cases e
      · injection hv with e1 _ e2
        injection e1 with e1
        injection e1 with e1
        subst e1 e2
        have hc := hsv.cells (g := g') rfl
        refine wpList_copy_own hgd d s dT sT ho elem hu hsz g 0 n n ⟨g', 0, none⟩ n cap hd hs cur2 elem hg xs (by simp [hxs, Nat.min_def]) hc (by omega) h1 ?_
        have hcur : cur2.toList.drop (0 + xs.length) = [] := List.drop_eq_nil_of_le (by simp; omega)
        rw [hcur, List.append_nil, List.take_zero, List.nil_append, hxs]
        refine h _ ⟨by omega, .inr ⟨g, n, xs.toArray, rfl, hb, setRow_heap w g cur2 _ elem (0, 0) hg, h2, h3, by simp [hxs], List.take_of_length_le (by show xs.length ≤ n * 1; omega)⟩⟩ (setRow_kept _)
end Go.Proofs.Ytiajiahfmfckjaa
