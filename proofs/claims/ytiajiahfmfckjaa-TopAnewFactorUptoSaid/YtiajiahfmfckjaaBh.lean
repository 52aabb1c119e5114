/- A region that draws its order, inside a fence that lets all in (a round's body): from the laws on plain regions. It states nothing of the program. -/
import Derived.Test.YtiajiahfmfckjaaBa
import Derived.Deep.RegionHeld
namespace Go.Proofs.Ytiajiahfmfckjaa
open Go.RowKit

section
variable {F : Fence} {m : Nat} {P : Program} {ops : Array Oper} {w : World} {Q : Exit → Act → World → Prop}

theorem Open.rows (hF : Open F) {row : String} {args : Array Value} {R : Value → World → Prop} (h : Rows P row args w R) : RowsIn F m P row args w R :=
  fun c cs _ => by
    obtain ⟨v, w', hR, hs⟩ := h c cs
    exact ⟨v, w', hR, (StepsIn.of_steps hs).mono (fun mm _ => hF.all P mm)⟩

theorem wpOpIn_of_wpOp (hF : Open F) (hdef : ∀ (j : Nat) (o : Oper) c, ops[j]? = some o → o.op ≠ .defer c) (hQ : ¬ LetsOut Q) {i : Nat} {a : Act} {K K' : Act → World → Prop}
    (hK : ∀ a w, K a w → K' a w) (h : wpOp P ops Q i K a w) : wpOpIn F m P ops Q i K' a w := by
  unfold wpOp at h
  unfold wpOpIn
  cases ho : ops[i]? with
  | none => simp only [ho] at h; exact hK _ _ h
  | some o =>
    simp only [ho] at h
    dsimp only
    split
    · rename_i hw
      simp only [hw, if_true] at h
      rcases h with h | ⟨-, hl⟩
      case inr => exact absurd hl hQ
      refine ⟨fun f _ => hF.fn f, ?_⟩
      rw [Oper.semAt_plain F _ _ (fun c => hdef i o c ho)]
      unfold Oper.wp at h
      generalize (execOp a.eval o).run P w = r at *
      cases r with
      | ok n w' =>
        cases n <;> simp only [Oper.upon] at h <;> simp only [Oper.uponIn]
        case value v => exact hK _ _ h
        case skip => exact hK _ _ h
        case defer d => exact hK _ _ h
        case enter f args =>
          refine ⟨fun hs => (by rw [hF.depth] at hs; cases hs), hF.calls (Calls.mono h fun e w'' he => ?_)⟩
          cases e with
          | returned v => exact hK _ _ he
          | panicked c => exact he
          | outgrown => exact he
        case row row args =>
          exact ⟨fun hs => (by rw [hF.depth] at hs; cases hs), hF.rows (Rows.mono h fun v w'' he => hK _ _ he)⟩
      | halt x w' =>
        cases x <;> simp only [Oper.upon] at h ⊢ <;> exact h
    · rename_i hw
      simp only [hw] at h
      exact ⟨fun f _ => hF.fn f, hK _ _ h⟩

theorem wpAnyIn_of_any (hF : Open F) (hdef : ∀ (j : Nat) (o : Oper) c, ops[j]? = some o → o.op ≠ .defer c) (hQ : ¬ LetsOut Q) {md : Region.Mode} : ∀ (fuel : Nat) (listed : Array Bool) (a : Act) (w : World),
    wpAny P md ops Q fuel listed a w → wpAnyIn F m P md ops Q fuel listed a w
  | 0, _, _, _, h => h
  | fuel + 1, _, _, _, h => ⟨h.1, fun i hi => wpOpIn_of_wpOp hF hdef hQ (fun a' w' h' => wpAnyIn_of_any hF hdef hQ fuel _ a' w' h') (h.2 i hi)⟩

/-- a region that draws its order: by the held law -/
theorem wpIn_held {id : Nat} {a : Act} {l : List Oper} (hF : Open F) (S : World → Prop) (hm : P.follows .mixedOrders = true) (hd : noDefer l = true) (hQ : ¬ LetsOut Q) (hS : S w.drew)
    (h : S w.drew → wpAnyH P .any l.toArray Q S l.toArray.size (Array.replicate l.toArray.size false) a w.drew) : (Code.region id l.toArray true).wpIn F m P Q a w :=
  wpIn_region_any hm (wpAnyIn_of_any hF (noDefer_spec hd) hQ _ _ _ _ (wpAny_of_held _ _ _ _ (h hS)))
end
end Go.Proofs.Ytiajiahfmfckjaa
