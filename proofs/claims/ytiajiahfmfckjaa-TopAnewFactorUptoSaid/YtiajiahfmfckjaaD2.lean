/- Puts of spans and ratios. -/
import Derived.Test.YtiajiahfmfckjaaD1
namespace Go.Proofs.Ytiajiahfmfckjaa
open Go.RowKit
set_option maxRecDepth 10000

theorem HeapAt.kept {S : Nat → Prop} {base hp : Nat} {w w' : World} {ns : List Int} {ss : List ByteArray} {v1 v2 : Value} (h : HeapAt base w hp ns ss v1 v2) (hk : Kept S w w') (hS : ∀ k, Foot hp v1 v2 k → S k) : HeapAt base w' hp ns ss v1 v2 :=
  ⟨h.blk.kept hk (hS _ (.inl rfl)), owns_kept h.nums hk (fun g hg => hS _ (.inr (.inl hg))), owns_kept h.txts hk (fun g hg => hS _ (.inr (.inr hg))), h.ne1, h.ne2, h.ne3, Nat.le_trans h.hbase hk.size⟩
theorem HeapAt.foot_lt {base hp : Nat} {w : World} {ns : List Int} {ss : List ByteArray} {v1 v2 : Value} (h : HeapAt base w hp ns ss v1 v2) {k : Nat} (hf : Foot hp v1 v2 k) : k < w.heap.size := by
  rcases hf with e | e | e
  · subst e; exact h.blk.lt
  · exact (owns_lt h.nums e).2
  · exact (owns_lt h.txts e).2
/-- two puts, one behind the other -/
theorem Puts.trans {base hp : Nat} {v1 v2 u1 u2 : Value} {w wm w' : World} {ns' : List Int} {ss' : List ByteArray} {e : Ending} (hk : Kept (fun k => ¬ Foot hp v1 v2 k) w wm) (hf : ∀ k, k < w.heap.size → Foot hp u1 u2 k → Foot hp v1 v2 k) (h : Puts base hp u1 u2 wm ns' ss' e w') : Puts base hp v1 v2 w ns' ss' e w' := by
  obtain ⟨hv, t1, t2, hh, hk2, hf2⟩ := h
  exact ⟨hv, t1, t2, hh, ⟨hk2.os.trans hk.os, hk2.tape.trans hk.tape, hk2.output.trans hk.output, Nat.le_trans hk.size hk2.size, fun k hlt hn => (hk2.block k (Nat.lt_of_lt_of_le hlt hk.size) (fun hq => hn (hf k hlt hq))).trans (hk.block k hlt hn)⟩, fun k hlt hq => hf k hlt (hf2 k (Nat.lt_of_lt_of_le hlt hk.size) hq)⟩

set_option maxHeartbeats 1000000 in
theorem putSpan_any {base hp : Nat} {ns : List Int} {ss : List ByteArray} {v1 v2 : Value} {w : World} (h : HeapAt base w hp ns ss v1 v2) (x : Int × Int) (hl : ns.length + 1 ≤ 1000000000000) :
    Calls Try.prog 13 #[ptr hp, sV x] w (Puts base hp v1 v2 w (ns ++ [x.1, x.2]) ss) := by
  go_enter Try.func13, Try.ntmps13
  go_wp2_with fail
  have hka : Kept All w (w.alloc (.cells #[.int .i64 x.1, .int .i64 x.2] 42)) := (Kept.refl _ _).alloc _
  refine (putInt_any (h.kept hka (fun _ _ => trivial)) x.1 (by omega)).mono ?_
  rintro e w1 ⟨⟨v, rfl⟩, u1, u2, h1, hk1, hf1⟩
  have hB := (Blk.new w 42 #[.int .i64 x.1, .int .i64 x.2]).kept hk1 (fun hf => by have := h.foot_lt hf; omega)
  have b0 := hB.at 0 rfl
  have b1 := hB.at 1 rfl
  have lb := hB.lt
  go_wp2_with fail
  refine (putInt_any h1 x.2 (by simp; omega)).mono ?_
  rintro e w2 hp2
  obtain ⟨v', rfl⟩ := hp2.1
  go_wp2_with fail
  have hT := Puts.trans (hka.all.trans hk1) (fun k hlt hq => hf1 k (by simp; omega) hq) hp2
  go_end0
  refine ⟨⟨_, rfl⟩, ?_⟩
  simpa using hT.2
set_option maxHeartbeats 1000000 in
theorem putRatio_any {base hp : Nat} {ns : List Int} {ss : List ByteArray} {v1 v2 : Value} {w : World} (h : HeapAt base w hp ns ss v1 v2) (x : Int × Int) (hl : ns.length + 1 ≤ 1000000000000) :
    Calls Try.prog 20 #[ptr hp, sV x] w (Puts base hp v1 v2 w (ns ++ [x.1, x.2]) ss) := by
  go_enter Try.func20, Try.ntmps20
  go_wp2_with fail
  have hka : Kept All w (w.alloc (.cells #[.int .i64 x.1, .int .i64 x.2] 48)) := (Kept.refl _ _).alloc _
  refine (putInt_any (h.kept hka (fun _ _ => trivial)) x.1 (by omega)).mono ?_
  rintro e w1 ⟨⟨v, rfl⟩, u1, u2, h1, hk1, hf1⟩
  have hB := (Blk.new w 48 #[.int .i64 x.1, .int .i64 x.2]).kept hk1 (fun hf => by have := h.foot_lt hf; omega)
  have b0 := hB.at 0 rfl
  have b1 := hB.at 1 rfl
  have lb := hB.lt
  go_wp2_with fail
  refine (putInt_any h1 x.2 (by simp; omega)).mono ?_
  rintro e w2 hp2
  obtain ⟨v', rfl⟩ := hp2.1
  go_wp2_with fail
  have hT := Puts.trans (hka.all.trans hk1) (fun k hlt hq => hf1 k (by simp; omega) hq) hp2
  go_end0
  refine ⟨⟨_, rfl⟩, ?_⟩
  simpa using hT.2

set_option maxHeartbeats 1000000 in
theorem putWat_any {base hp : Nat} {ns : List Int} {ss : List ByteArray} {v1 v2 : Value} {w : World} (h : HeapAt base w hp ns ss v1 v2) (n : ByteArray) (lo hi off : Int) (hl : ns.length + 2 ≤ 1000000000000) (hl2 : ss.length ≤ 1000000000000) :
    Calls Try.prog 75 #[ptr hp, .agg #[.string n, .int .i64 lo, .int .i64 hi, .int .i64 off]] w (Puts base hp v1 v2 w (ns ++ [lo, hi, off]) (ss ++ [n])) := by
  go_enter Try.func75, Try.ntmps75
  go_wp2_with fail
  have hka : Kept All w (w.alloc (.cells #[.string n, .int .i64 lo, .int .i64 hi, .int .i64 off] 64)) := (Kept.refl _ _).alloc _
  refine (putText_any (h.kept hka (fun _ _ => trivial)) n (by omega)).mono ?_
  rintro e w1 ⟨⟨v, rfl⟩, u1, u2, h1, hk1, hf1⟩
  have hB := (Blk.new w 64 #[.string n, .int .i64 lo, .int .i64 hi, .int .i64 off]).kept hk1 (fun hf => by have := h.foot_lt hf; omega)
  have b1 := hB.at 1 rfl
  have b2 := hB.at 2 rfl
  have lb := hB.lt
  go_wp2_with fail
  refine (putSpan_any h1 (lo, hi) (by omega)).mono ?_
  rintro e w2 ⟨⟨v', rfl⟩, t1, t2, h2, hk2, hf2⟩
  have hC := hB.kept hk2 (fun hf => by have := hf1 _ (by simp) hf; have := h.foot_lt this; omega)
  have b3 := hC.at 3 rfl
  have lc := hC.lt
  go_wp2_with fail
  refine (putInt_any h2 off (by simp; omega)).mono ?_
  rintro e w3 hp3
  obtain ⟨v'', rfl⟩ := hp3.1
  go_wp2_with fail
  have hT := Puts.trans (hka.all.trans hk1) (fun k hlt hq => hf1 k (by simp; omega) hq) (Puts.trans hk2 hf2 hp3)
  go_end0
  refine ⟨⟨_, rfl⟩, ?_⟩
  simpa using hT.2

end Go.Proofs.Ytiajiahfmfckjaa
