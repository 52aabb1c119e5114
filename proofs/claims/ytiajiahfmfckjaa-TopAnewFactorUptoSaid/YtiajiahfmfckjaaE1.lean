/- again: a call that puts the same once more, when its first result was written over. -/
import Derived.Test.YtiajiahfmfckjaaW3
namespace Go.Proofs.Ytiajiahfmfckjaa
open Go.RowKit
set_option maxRecDepth 10000

abbrev nilV : Value := .slice none 0 0
def Enters (g : Nat) : Prop := ∀ args w, (callFunc g args).run Try.prog w = .ok (.enter g args) w
theorem foot_nil {hp k : Nat} : Foot hp nilV nilV k ↔ k = hp := by simp [Foot, nilV, Value.ownBlock]

/-- behind a call that puts: what was put, and what its way to write over writes -/
def AgainPost (base hp : Nat) (R : List Int) (W : World) (e : Ending) (W' : World) : Prop :=
  ∃ g gc, e = .returned (.func (.func g) #[] gc) ∧ Enters g ∧ ∃ u1 u2, HeapAt base W' hp R [] u1 u2 ∧ Kept (fun k => k ≠ hp) W W' ∧ (∀ k, k < W.heap.size → Foot hp u1 u2 k → k = hp) ∧
    ∃ wiped : Nat → Prop, (∀ k, wiped k → W.heap.size ≤ k ∧ ¬ Foot hp u1 u2 k) ∧ Calls Try.prog g gc W' fun e W3 => (∃ v, e = .returned v) ∧ Kept (fun k => ¬ wiped k) W' W3
def AgainOk (w0 : World) (f : Nat) (caps : Array Value) (R : List Int) : Prop :=
  ∀ (W : World) (hp : Nat), Kept All w0 W → HeapAt w0.heap.size W hp [] [] nilV nilV → w0.heap.size ≤ hp → Calls Try.prog f (#[ptr hp] ++ caps) W (AgainPost w0.heap.size hp R W)

theorem again_plain {base hp : Nat} {R : List Int} {W W' : World} {u1 u2 : Value} (h : HeapAt base W' hp R [] u1 u2) (hk : Kept (fun k => ¬ Foot hp nilV nilV k) W W') (hf : ∀ k, k < W.heap.size → Foot hp u1 u2 k → Foot hp nilV nilV k) :
    AgainPost base hp R W (.returned (.func (.func 10) #[] #[])) W' :=
  ⟨10, #[], rfl, enters_of Try.func10 (by kernel_rfl) rfl, u1, u2, h, hk.mono fun k _ hne hq => hne (foot_nil.1 hq), fun k hk' hq => foot_nil.1 (hf k hk' hq), fun _ => False, fun _ h => h.elim,
    (nothing_any W').mono (by rintro e w ⟨hv, rfl⟩; exact ⟨hv, Kept.refl _ _⟩)⟩

theorem heap_new {w W : World} {hp : Nat} (hb : Blk W hp 31 #[nilV, nilV]) (hs : w.heap.size ≤ W.heap.size) : HeapAt w.heap.size W hp [] [] nilV nilV :=
  ⟨hb, ⟨by simp [encN], .inl ⟨rfl, rfl⟩⟩, ⟨by simp [encT'], .inl ⟨rfl, rfl⟩⟩, by simp [Value.ownBlock], by simp [Value.ownBlock], fun g hg => by simp [Value.ownBlock] at hg, hs⟩

set_option maxHeartbeats 2000000 in
theorem again_any {w0 : World} {f : Nat} {caps : Array Value} {R : List Int} (hf : Enters f) (h : AgainOk w0 f caps R) (hR : R.length ≤ 1000) :
    Calls Try.prog 5 #[.func (.func f) #[] caps] w0 fun e W' => e = .returned (.bool true) ∧ Kept All w0 W' := by
  have ef : ∀ args w, (callFunc f args).run Try.prog w = .ok (.enter f args) w := hf
  obtain ⟨W1, hW1⟩ : ∃ W, (w0.alloc (.cells #[nilV, nilV] 31)).alloc (.cells #[nilV, nilV] 31) = W := ⟨_, rfl⟩
  have hk1 : Kept All w0 W1 := by rw [← hW1]; exact ((Kept.refl _ _).alloc _).alloc _
  have hA1 : Blk W1 w0.heap.size 31 #[nilV, nilV] := by rw [← hW1]; exact (Blk.new _ _ _).alloc _
  have hB1 : Blk W1 (w0.heap.size + 1) 31 #[nilV, nilV] := by rw [← hW1]; exact Blk.new' _ _ (by simp)
  have hz1 : W1.heap.size = w0.heap.size + 2 := by rw [← hW1]; simp
  have hc1 := h W1 w0.heap.size hk1 (heap_new hA1 hk1.size) (Nat.le_refl _)
  have HC1 := Lib.hid hc1
  have HZ1 := Lib.hid hz1
  clear hc1 hz1
  subst hW1
  go_enter Try.func5, Try.ntmps5
  go_wp2_with fail
  refine HC1.out.mono ?_
  rintro e W2 ⟨g, gc, rfl, hg, u1, u2, hHA, hk2, hF2, wiped, hw, hcall⟩
  have eg : ∀ args w, (callFunc g args).run Try.prog w = .ok (.enter g args) w := hg
  go_wp2_with fail
  refine hcall.mono ?_
  rintro e W3 ⟨⟨v, rfl⟩, hk3⟩
  have hz1 := HZ1.out
  have hK2 : Kept All w0 W2 := hk1.weld hk2 (fun k hk => by omega)
  have hK3 : Kept All w0 W3 := hK2.weld hk3 (fun k hk hq => by have := (hw k hq).1; omega)
  have hHA3 := hHA.kept hk3 (fun k hq hq2 => (hw k hq2).2 hq)
  have hB3 := (hB1.kept hk2 (by omega)).kept hk3 (fun hq => by have := (hw _ hq).1; omega)
  have hF3 : ∀ k, Foot w0.heap.size u1 u2 k → k ≠ w0.heap.size + 1 := fun k hq e => by have := hF2 k (by omega) hq; omega
  have hc2 := h W3 (w0.heap.size + 1) hK3 (heap_new hB3 hK3.size) (by omega)
  clear hw hcall hF2 hHA hk3 hk2 HZ1 hz1 h
  go_wp2_with fail
  refine hc2.mono ?_
  clear hc2
  rintro e W4 ⟨g', gc', rfl, -, x1, x2, hHB, hk4, -, -⟩
  have hHA4 := hHA3.kept hk4 (fun k hq => hF3 k hq)
  have a0 := hHA4.blk.at 0 rfl
  have a1 := hHA4.blk.at 1 rfl
  have b0 := hHB.blk.at 0 rfl
  have b1 := hHB.blk.at 1 rfl
  have hK4 : Kept All w0 W4 := hK3.weld hk4 (fun k hk => by omega)
  clear hk4 hK3 hHA3 hB3 hF3 hK2 hA1 hB1 hk1 HC1
  go_wp2_with fail
  refine (same_any (by omega) (by simp) hHA4 hHB).mono ?_
  rintro e W5 ⟨rfl, hk5⟩
  go_wp2_with fail
  go_ret
  exact ⟨rfl, hK4.trans hk5⟩
end Go.Proofs.Ytiajiahfmfckjaa
