/- A cache kept in a map: what it holds under a key is good of that key. -/
import Derived.Test.YtiajiahfmfckjaaBa
import Derived.Maps.OwnIn
namespace Go.Proofs.Ytiajiahfmfckjaa
open Go.RowKit

/-- block m is a map; each entry's key is the key of some k, its value good of k -/
def Cache {κ : Type} (w : World) (m : Nat) (enc : κ → Value) (Good : κ → Value → Prop) : Prop :=
  ∃ es clock, w.heap[m]? = some (.map es clock) ∧ ∀ e ∈ es.toList, ∃ k, e.key = enc k ∧ Good k e.val

structure KeyOk {κ : Type} [DecidableEq κ] (P : Program) (T : TypeId) (enc : κ → Value) : Prop where
  under : ∃ d, P.underlying T = some d ∧ ∀ k k', Instr.sameNow d (enc k) (enc k') = none
  eq : ∀ k k' w, (Op.equal T (enc k) (enc k')).run P w = .ok (decide (k = k')) w
  chk : ∀ b k w, (Instr.checkKey b 10000 T (enc k)).run P w = .ok () w
  bits : ∀ k, Instr.sameBits 10000 (enc k) (enc k) = true

section
variable {κ : Type} [DecidableEq κ] {P : Program} {T : TypeId} {enc : κ → Value} {Good : κ → Value → Prop}

theorem findAsking_run (K : KeyOk P T enc) (k : κ) : ∀ (es : List MapEntry) (i : Nat), (∀ e ∈ es, ∃ k', e.key = enc k') →
    (∃ j e, es[j]? = some e ∧ e.key = enc k ∧ ∀ w, (Instr.findAsking T (enc k) es i).run P w = .ok (some (i + j, e.val)) w) ∨
    (∀ w, (Instr.findAsking T (enc k) es i).run P w = .ok none w)
  | [], i, _ => .inr fun w => by simp [Instr.findAsking]
  | e :: es, i, h => by
    obtain ⟨k', hk'⟩ := h e (by simp)
    by_cases hkk : k = k'
    · subst hkk
      exact .inl ⟨0, e, rfl, hk', fun w => by simp [Instr.findAsking, Sem.run_bind, hk', K.eq, Result.andThen]⟩
    · have ih := findAsking_run K k es (i + 1) (fun e' he' => h e' (by simp [he']))
      have hstep : ∀ w, (Instr.findAsking T (enc k) (e :: es) i).run P w = (Instr.findAsking T (enc k) es (i + 1)).run P w := fun w => by
        simp [Instr.findAsking, Sem.run_bind, hk', K.eq, Result.andThen, hkk]
      rcases ih with ⟨j, e', h1, h2, h3⟩ | h3
      · exact .inl ⟨j + 1, e', by simpa using h1, h2, fun w => by rw [hstep, h3]; congr 3; omega⟩
      · exact .inr fun w => by rw [hstep, h3]

theorem findKey_run (K : KeyOk P T enc) (k : κ) (es : List MapEntry) (h : ∀ e ∈ es, ∃ k', e.key = enc k') :
    (∃ j e, es[j]? = some e ∧ e.key = enc k ∧ ∀ w, (Instr.findKey T (enc k) es).run P w = .ok (some (j, e.val)) w) ∨
    (∀ w, (Instr.findKey T (enc k) es).run P w = .ok none w) := by
  obtain ⟨d, hu, hn⟩ := K.under
  have hrun : (∀ w, (Instr.findKey T (enc k) es).run P w = (Instr.findAsking T (enc k) es 0).run P w) ∨ es = [] := by
    cases es with
    | nil => exact .inr rfl
    | cons e es =>
      obtain ⟨k', hk'⟩ := h e (by simp)
      refine .inl fun w => ?_
      have hnow : Instr.findNow d (enc k) (e :: es) 0 = none := by simp [Instr.findNow, hk', hn]
      simp [Instr.findKey, Sem.run_bind, underlying, hu, Result.andThen, hnow]
  rcases hrun with hrun | rfl
  · rcases findAsking_run K k es 0 h with ⟨j, e, h1, h2, h3⟩ | h3
    · exact .inl ⟨j, e, h1, h2, fun w => by rw [hrun, h3]; simp⟩
    · exact .inr fun w => by rw [hrun, h3]
  · exact .inr fun w => by simp [Instr.findKey, Sem.run_bind, underlying, hu, Result.andThen, Instr.findNow]

theorem cache_lookup {w : World} {m : Nat} {M E : TypeId} {z : Value} (K : KeyOk P T enc) (hM : P.underlying M = some (.map T E)) (hz : ∀ w, (zeroValue E).run P w = .ok z w) (hc : Cache w m enc Good) (k : κ) :
    ∃ v ok, (∀ X : World, X.heap[m]? = w.heap[m]? → (Instr.lookup M (.map (some m)) (enc k) true).run P X = .ok (.tuple #[v, .bool ok]) X) ∧ (ok = true ∧ Good k v ∨ ok = false ∧ v = z) := by
  obtain ⟨es, clock, hh, hes⟩ := hc
  rcases findKey_run K k es.toList (fun e he => let ⟨k', h1, _⟩ := hes e he; ⟨k', h1⟩) with ⟨j, e, h1, h2, h3⟩ | h3
  · refine ⟨e.val, true, fun X hX => ?_, .inl ⟨rfl, ?_⟩⟩
    · rw [hh] at hX
      simp [Instr.lookup, Sem.run_bind, underlying, hM, Result.andThen, getObj, Sem.run, hX, K.chk, h3]
    · obtain ⟨k', hk', hg⟩ := hes e (List.mem_of_getElem? h1)
      have hkk : k' = k := by
        have h4 := K.eq k k' w
        have h5 := K.eq k k w
        rw [← hk', h2, h5] at h4
        have h6 : k = k' := by simpa using h4
        exact h6.symm
      subst hkk
      exact hg
  · exact ⟨z, false, fun X hX => by rw [hh] at hX; simp [Instr.lookup, Sem.run_bind, underlying, hM, Result.andThen, getObj, Sem.run, hX, K.chk, h3, hz], .inr ⟨rfl, rfl⟩⟩

theorem cache_update {w : World} {m : Nat} {M E : TypeId} (K : KeyOk P T enc) (hM : P.underlying M = some (.map T E)) (hc : Cache w m enc Good) (k : κ) (v : Value) (hv : Good k v) :
    ∃ o, (Instr.mapUpdate M (.map (some m)) (enc k) v).run P w = .ok () (w.putObj m o) ∧ Cache (w.putObj m o) m enc Good := by
  obtain ⟨es, clock, hh, hes⟩ := hc
  have hlt : m < w.heap.size := lt_of_heap hh
  rcases findKey_run K k es.toList (fun e he => let ⟨k', h1, _⟩ := hes e he; ⟨k', h1⟩) with ⟨j, e, h1, h2, h3⟩ | h3
  · refine ⟨.map (es.modify j fun e => { e with key := enc k, val := v }) clock, ?_, _, _, World.putObj_heap_same hlt, ?_⟩
    · have h1' : es[j]? = some e := by simpa using h1
      simp [Instr.mapUpdate, Sem.run_bind, underlying, hM, Result.andThen, getObj, setObj, Sem.run, hh, K.chk, h3, Instr.keyThatStays, h1', h2, K.bits, World.putObj]
    · intro e' he'
      rw [Array.mem_toList_iff, Array.mem_iff_getElem] at he'
      obtain ⟨q, hq, rfl⟩ := he'
      rw [Array.getElem_modify]
      split
      · exact ⟨k, rfl, hv⟩
      · rw [Array.size_modify] at hq
        exact hes _ (by rw [Array.mem_toList_iff]; exact Array.getElem_mem hq)
  · refine ⟨.map (es.push { key := enc k, val := v, born := clock }) (clock + 1), ?_, _, _, World.putObj_heap_same hlt, ?_⟩
    · simp [Instr.mapUpdate, Sem.run_bind, underlying, hM, Result.andThen, getObj, setObj, Sem.run, hh, K.chk, h3, World.putObj]
    · intro e' he'
      rw [Array.mem_toList_iff, Array.mem_push] at he'
      rcases he' with he' | rfl
      · exact hes _ (by rw [Array.mem_toList_iff]; exact he')
      · exact ⟨k, rfl, hv⟩

end

section
variable {κ : Type} {enc : κ → Value} {Good : κ → Value → Prop}
theorem Cache.kept {S : Nat → Prop} {w w' : World} {m : Nat} (h : Cache w m enc Good) (hk : Kept S w w') (hs : S m) : Cache w' m enc Good := by
  obtain ⟨es, clock, hh, hes⟩ := h
  exact ⟨es, clock, hk.heap hh hs, hes⟩
theorem Cache.made (w : World) : Cache (w.alloc (.map #[] 0)) w.heap.size enc Good := ⟨#[], 0, World.alloc_heap_new w _, fun e he => by simp at he⟩
theorem Cache.lt {w : World} {m : Nat} (h : Cache w m enc Good) : m < w.heap.size := by
  obtain ⟨es, clock, hh, _⟩ := h
  exact lt_of_heap hh
end

/-- arrays of three numbers as keys -/
abbrev enc3 : Int × Int × Int → Value := fun k => .agg #[.int .i64 k.1, .int .i64 k.2.1, .int .i64 k.2.2]
theorem equalIn_int {P : Program} {E : TypeId} (hE : P.underlying E = some (.int .i64)) (n : Nat) (a b : Int) (w : World) : (Op.equalIn (n + 1) E (.int .i64 a) (.int .i64 b)).run P w = .ok (a == b) w := by
  simp [Op.equalIn, Sem.run_bind, underlying, hE, Result.andThen]
theorem checkKey_int {P : Program} {E : TypeId} (hE : P.underlying E = some (.int .i64)) (b : Bool) (n : Nat) (a : Int) (w : World) : (Instr.checkKey b (n + 1) E (.int .i64 a)).run P w = .ok () w := by
  simp [Instr.checkKey, Sem.run_bind, underlying, hE, Result.andThen]
theorem keyOk_arr3 {P : Program} {T E : TypeId} (hT : P.underlying T = some (.array 3 E)) (hE : P.underlying E = some (.int .i64)) (hs : ∀ w, (sizeOf E).run P w = .ok 1 w)
    (hp : ∀ (x y z : Value) (w : World), (part E #[x, y, z] 0).run P w = .ok x w ∧ (part E #[x, y, z] 1).run P w = .ok y w ∧ (part E #[x, y, z] 2).run P w = .ok z w) : KeyOk P T enc3 := by
  have heq : ∀ (n : Nat) (k k' : Int × Int × Int) (w : World), (Op.equalIn (n + 1 + 1) T (enc3 k) (enc3 k')).run P w = .ok (decide (k = k')) w := by
    intro n k k' w
    obtain ⟨a, b, c⟩ := k
    obtain ⟨a', b', c'⟩ := k'
    have p1 := fun x y z w => (hp x y z w).1
    have p2 := fun x y z w => (hp x y z w).2.1
    have p3 := fun x y z w => (hp x y z w).2.2
    have hr3 : List.range' 0 3 = [0, 1, 2] := rfl
    rw [Op.equalIn]
    by_cases h1 : a = a' <;> by_cases h2 : b = b' <;> by_cases h3 : c = c' <;>
      simp [Sem.run_bind, underlying, hT, Result.andThen, hs, h1, h2, h3, Std.Legacy.Range.forIn_eq_forIn_range', hr3, p1, p2, p3, equalIn_int hE]
  have hck : ∀ (n : Nat) (b : Bool) (k : Int × Int × Int) (w : World), (Instr.checkKey b (n + 1 + 1) T (enc3 k)).run P w = .ok () w := by
    intro n b k w
    obtain ⟨x, y, z⟩ := k
    have p1 := fun x y z w => (hp x y z w).1
    have p2 := fun x y z w => (hp x y z w).2.1
    have p3 := fun x y z w => (hp x y z w).2.2
    have hr3 : List.range' 0 3 = [0, 1, 2] := rfl
    rw [Instr.checkKey]
    simp [Sem.run_bind, underlying, hT, Result.andThen, hs, Std.Legacy.Range.forIn_eq_forIn_range', hr3, p1, p2, p3, checkKey_int hE]
  refine ⟨⟨_, hT, fun k k' => rfl⟩, fun k k' w => heq 9998 k k' w, fun b k w => hck 9998 b k w, fun k => ?_⟩
  obtain ⟨a, b, c⟩ := k
  have : ∀ n : Nat, Instr.sameBits (n + 1 + 1) (enc3 (a, b, c)) (enc3 (a, b, c)) = true := fun n => by simp [Instr.sameBits]
  exact this 9998
end Go.Proofs.Ytiajiahfmfckjaa
