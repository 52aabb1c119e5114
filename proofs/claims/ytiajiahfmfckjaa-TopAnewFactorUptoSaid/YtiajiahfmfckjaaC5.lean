/- The walk of package factor's truths: the closure that calls itself. -/
import Derived.Test.YtiajiahfmfckjaaC4
import Derived.BigRegion
import Derived.Deep.Cut
import Derived.Sort.CutIn
import Derived.WalkMore
namespace Go.Proofs.Ytiajiahfmfckjaa
open Go.RowKit
set_option maxRecDepth 10000

abbrev ptr (b : Nat) : Value := .pointer (some ⟨b, 0, none⟩)
abbrev encT (x : F3 × N4) : Array Value := #[fV x.1, nV x.2]

structure Env (base : Nat) (w : World) (hb km : Nat) (h : House) (but : Int) (A : Option Addr) (c : Nat) (D : Option Addr) (d : Nat) (l bs bf bn bd bY : Nat) (f : F3) : Prop where
  hp : HP base w hb km h but A c D d
  s : Blk w bs 74 #[ptr hb]
  f : Blk w bf 84 (fC f)
  n : Blk w bn 94 #[.func (.func 72) #[] #[ptr bs, ptr bf, ptr bn, ptr bd, ptr bY]]
  d : Blk w bd 109 #[.func (.func 71) #[ptr hb] #[]]
  y : Blk w bY 108 #[.func (.yield l) #[] #[]]

theorem Env.kept {S : Nat → Prop} {base : Nat} {w w' : World} {hb km : Nat} {h : House} {but : Int} {A : Option Addr} {c : Nat} {D : Option Addr} {d l bs bf bn bd bY : Nat} {f : F3} (he : Env base w hb km h but A c D d l bs bf bn bd bY f)
    (hk : Kept S w w') (hS : ∀ k, k < base → S k) (h1 : S bs) (h2 : S bf) (h3 : S bn) (h4 : S bd) (h5 : S bY) : Env base w' hb km h but A c D d l bs bf bn bd bY f :=
  ⟨he.hp.kept hk hS, he.s.kept hk h1, he.f.kept hk h2, he.n.kept hk h3, he.d.kept hk h4, he.y.kept hk h5⟩

theorem keyOk84 : KeyOk Try.prog 84 enc3 := keyOk_arr3 (E := 3) Try.underlying84 Try.underlying3 (fun w => by kernel_rfl) (fun x y z w => ⟨by kernel_rfl, by kernel_rfl, by kernel_rfl⟩)
theorem zero87 (w : World) : (zeroValue 87).run Try.prog w = .ok (nV N4.zero) w := by kernel_rfl

/-- what a call of next comes to -/
def NextPost (base n1 : Nat) (hb km : Nat) (h : House) (but : Int) (A : Option Addr) (c : Nat) (D : Option Addr) (d : Nat) (l bs bf bn bd bY : Nat) (xs : List (F3 × N4)) (J Jx : List (F3 × N4) → World → Prop) (b : Nat) (f : F3) (pre : List (F3 × N4)) (W : World) (e : Ending) (w' : World) : Prop :=
  n1 ≤ w'.heap.size ∧
  ((e = .returned (.bool true) ∧ J (pre ++ enum h but b f) w' ∧ Kept (fun k => n1 ≤ k ∧ k ≠ bf) W w' ∧ ∃ f', (∀ i, i < 3 → (i < h.ws.length - b ∨ h.ws.length ≤ i) → f'.get i = f.get i) ∧ Env base w' hb km h but A c D d l bs bf bn bd bY f') ∨
   (e = .returned (.bool false) ∧ Cache w' km enc3 (GoodN h but) ∧ ∃ q, q <+: xs ∧ Jx q w'))

section
variable {base n1 hb km : Nat} {h : House} {but : Int} {A : Option Addr} {c : Nat} {D : Option Addr} {d l bs bf bn bd bY : Nat} {xs : List (F3 × N4)} {J Jx : List (F3 × N4) → World → Prop}

set_option maxHeartbeats 2000000 in
theorem leaf_cached (hv : Valid h) (hJ : ∀ pre A B, J pre A → n1 ≤ A.heap.size → Kept (fun k => k < n1 ∧ ¬ k = km) A B → J pre B)
    (hY : ∀ pre x A, J pre A → n1 ≤ A.heap.size → (pre ++ [x]) <+: xs → YieldAt Fence.wide 0 Try.prog l (encT x) A fun e B =>
      (e = .returned (.bool true) ∧ J (pre ++ [x]) B ∧ Kept (fun k => (k < base ∨ k = bs) ∨ n1 ≤ k) A B) ∨ (e = .returned (.bool false) ∧ Jx (pre ++ [x]) B ∧ Kept (fun k => (k < base ∨ k = bs) ∨ n1 ≤ k) A B))
    (h1 : n1 ≤ bf) (h2 : n1 ≤ bn) (h3 : n1 ≤ bd) (h4 : n1 ≤ bY) (f : F3) (pre : List (F3 × N4)) (W : World) (hj : J pre W) (hn : n1 ≤ W.heap.size) (he : Env base W hb km h but A c D d l bs bf bn bd bY f)
    (hx : (pre ++ enum h but 0 f) <+: xs) (hlk : ∀ X : World, X.heap[km]? = W.heap[km]? → (Instr.lookup 110 (.map (some km)) (fV f) true).run Try.prog X = .ok (.tuple #[nV (numbersOf h but f), .bool true]) X) :
    Calls Try.prog 72 #[.int .i64 h.ws.length, ptr bs, ptr bf, ptr bn, ptr bd, ptr bY] W (NextPost base n1 hb km h but A c D d l bs bf bn bd bY xs J Jx 0 f pre W) := by
  have hnw := hv.nw
  have hnd := hv.nd
  have s0 := he.s.at 0 rfl
  have f0 := he.f.at 0 rfl
  have f1 := he.f.at 1 rfl
  have f2 := he.f.at 2 rfl
  have k0 := he.hp.blk.at 0 rfl
  have k1 := he.hp.blk.at 1 rfl
  have k3 := he.hp.blk.at 3 rfl
  have y0 := he.y.at 0 rfl
  have ls := he.s.lt
  have lf := he.f.lt
  have ly := he.y.lt
  have lh := he.hp.blk.lt
  have hlk1 : (Instr.lookup 110 (.map (some km)) (fV f) true).run Try.prog W.drew = .ok (.tuple #[nV (numbersOf h but f), .bool true]) W.drew := hlk W.drew rfl
  have hlk2 : ∀ o, (Instr.lookup 110 (.map (some km)) (fV f) true).run Try.prog (W.alloc o).drew = .ok (.tuple #[nV (numbersOf h but f), .bool true]) (W.alloc o).drew := fun o => hlk _ (Below.heap_alloc W o km he.hp.cache.lt)
  clear hlk
  go_enter Try.func72, Try.ntmps72
  go_wp2_with fail
  go_region
  go_upto_region 20 with (fail)
  obtain ⟨W1, hW1⟩ : ∃ W1, (W.alloc (.cells (nC (numbersOf h but f)) 87)).drew = W1 := ⟨_, rfl⟩
  rw [hW1]
  have hk : Kept All W W1 := by rw [← hW1]; exact ((Kept.refl _ _).alloc _).drew
  have hN : Blk W1 W.heap.size 87 (nC (numbersOf h but f)) := by rw [← hW1]; exact Blk.new _ _ _
  clear hW1 hlk1 hlk2
  have he1 := he.kept hk (fun _ _ => trivial) trivial trivial trivial trivial trivial
  have hj1 := hJ _ _ _ hj hn hk.all
  have hn1 : n1 ≤ W1.heap.size := Nat.le_trans hn hk.size
  replace s0 := he1.s.at 0 rfl
  replace f0 := he1.f.at 0 rfl
  replace f1 := he1.f.at 1 rfl
  replace f2 := he1.f.at 2 rfl
  replace y0 := he1.y.at 0 rfl
  replace k0 := he1.hp.blk.at 0 rfl
  replace k1 := he1.hp.blk.at 1 rfl
  have m0 := hN.at 0 rfl
  have m1 := hN.at 1 rfl
  have m2 := hN.at 2 rfl
  have m3 := hN.at 3 rfl
  have m4 := hN.at 4 rfl
  have m5 := hN.at 5 rfl
  have m6 := hN.at 6 rfl
  have m7 := hN.at 7 rfl
  refine (wpIn_wide (n := 0)).1 ?_
  cases hd : dead h (numbersOf h but f) with
  | true =>
    have hen : enum h but 0 f = [] := by rw [enum, hd]; rfl
    simp only [dead, Bool.and_eq_true, decide_eq_true_eq, beq_iff_eq] at hd
    obtain ⟨d1, d2⟩ := hd
    have d3 : (numbersOf h but f).a.1 = 1 := by rw [d2]
    have d4 : (numbersOf h but f).a.2 = 0 := by rw [d2]
    have HE := Lib.hid hen
    clear d2 hen
    gi_wp2_with fail
    refine ⟨fun _ hh => (by cases hh), ?_⟩
    gi_wp2_with fail
    go_wp2_with fail
    go_ret
    exact ⟨hn1, .inl ⟨rfl, by rw [HE.out, List.append_nil]; exact hj1, hk.all, f, fun _ _ _ => rfl, he1⟩⟩
  | false =>
    have hen : enum h but 0 f = [(f, numbersOf h but f)] := by rw [enum, hd]; rfl
    have HE := Lib.hid hen
    rw [hen] at hx
    obtain ⟨N, hNN⟩ : ∃ N, numbersOf h but f = N := ⟨_, rfl⟩
    have hd' : ¬ (0 < h.days.length ∧ N.a.1 = 1 ∧ N.a.2 = 0) := by
      rintro ⟨d1, d2, d3⟩
      have : N.a = (1, 0) := Prod.ext d2 d3
      simp [dead, d1, hNN, this] at hd
    rw [hNN] at hN hen hx HE
    clear hen hd m0 m1 m2 m3 m4 m5 m6 m7
    obtain ⟨fn, tmps, assign, body, hy, hR⟩ := hY pre (f, N) W1 hj1 hn1 hx
    clear hNN
    obtain ⟨⟨x1, x2⟩, ⟨x3, x4⟩, ⟨x5, x6⟩, ⟨x7, x8⟩⟩ := N
    have m0 := hN.at 0 rfl
    have m1 := hN.at 1 rfl
    have m2 := hN.at 2 rfl
    have m3 := hN.at 3 rfl
    have m4 := hN.at 4 rfl
    have m5 := hN.at 5 rfl
    have m6 := hN.at 6 rfl
    have m7 := hN.at 7 rfl
    dsimp only at m0 m1 m2 m3 m4 m5 m6 m7 hd'
    have HD := Lib.hid hd'
    clear hd'
    by_cases c2 : x1 = 1
    · subst c2
      gi_wp2_with fail
      all_goals first
        | (exfalso; exact HD.out ⟨by assumption, (by simp), by assumption⟩)
        | skip
      all_goals
        refine ⟨rfl, hR.mono ?_⟩
        rintro e W2 (⟨rfl, hj2, hk2⟩ | ⟨rfl, hj2, hk2⟩)
      all_goals
        have hn2 : n1 ≤ W2.heap.size := Nat.le_trans hn1 hk2.size
        have he2 := he1.kept hk2 (fun _ h => .inl (.inl h)) (.inl (.inr rfl)) (.inr h1) (.inr h2) (.inr h3) (.inr h4)
        clear hy
        gi_wp2_with fail
        go_wp2_with fail
        go_ret
        first
          | exact ⟨hn2, .inl ⟨rfl, by rw [HE.out]; exact hj2, hk.all.trans (hk2.mono fun k _ h => .inr h.1), f, fun _ _ _ => rfl, he2⟩⟩
          | exact ⟨hn2, .inr ⟨rfl, he2.hp.cache, _, hx, hj2⟩⟩
    · have c2' : (x1 == 1) = false := by simpa using c2
      clear c2
      gi_wp2_with fail
      all_goals
        refine ⟨rfl, hR.mono ?_⟩
        rintro e W2 (⟨rfl, hj2, hk2⟩ | ⟨rfl, hj2, hk2⟩)
      all_goals
        have hn2 : n1 ≤ W2.heap.size := Nat.le_trans hn1 hk2.size
        have he2 := he1.kept hk2 (fun _ h => .inl (.inl h)) (.inl (.inr rfl)) (.inr h1) (.inr h2) (.inr h3) (.inr h4)
        clear hy
        gi_wp2_with fail
        go_wp2_with fail
        go_ret
        first
          | exact ⟨hn2, .inl ⟨rfl, by rw [HE.out]; exact hj2, hk.all.trans (hk2.mono fun k _ h => .inr h.1), f, fun _ _ _ => rfl, he2⟩⟩
          | exact ⟨hn2, .inr ⟨rfl, he2.hp.cache, _, hx, hj2⟩⟩
end
end Go.Proofs.Ytiajiahfmfckjaa
