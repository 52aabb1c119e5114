/- AnewFactor's all. -/
import Derived.Test.YtiajiahfmfckjaaD6
namespace Go.Proofs.Ytiajiahfmfckjaa
open Go.RowKit
set_option maxRecDepth 10000

section
variable {base hp : Nat} {ns : List Int} {ss : List ByteArray} {v1 v2 : Value} {w : World}

abbrev anV (H : House) (A : Option Addr) (c : Nat) (D : Option Addr) (d : Nat) (p q r s : Int) : Value := .agg #[.slice A H.ws.length c, .slice D H.days.length d, .int .i64 p, .int .i64 q, .int .i64 r, .int .i64 s]
set_option maxHeartbeats 1000000 in
theorem all_any (h : HeapAt base w hp ns ss v1 v2) (B0 : Nat) (w0 : World) (hw0 : w0.heap.size ≤ B0) (hB0 : B0 ≤ w.heap.size) (H : House) (A : Option Addr) (c : Nat) (D : Option Addr) (d : Nat) (hin : HIn w0 H A c D d) (hk0 : Kept (fun k => k < B0) w0 w) (hd : ∀ k, k < B0 → ¬ Foot hp v1 v2 k) (p q r s : Int)
    (hl : ns.length + 3 * H.ws.length + (dayNs H H.days.length).length + 20 ≤ 1000000000000) (hl2 : ss.length + H.ws.length ≤ 1000000000000) :
    Calls Try.prog 4 #[anV H A c D d p q r s, ptr hp] w (Puts base hp v1 v2 w (ns ++ (houseNs H ++ [p, q, r, s])) (ss ++ houseSs H)) := by
  go_enter Try.func4, Try.ntmps4
  go_wp2_with fail
  have hka : Kept All w (w.alloc (.cells #[.slice A H.ws.length c, .slice D H.days.length d, .int .i64 p, .int .i64 q, .int .i64 r, .int .i64 s] 27)) := (Kept.refl _ _).alloc _
  have hB0' := Blk.new w 27 #[.slice A H.ws.length c, .slice D H.days.length d, .int .i64 p, .int .i64 q, .int .i64 r, .int .i64 s]
  refine (putHouse_any (h.kept hka (fun _ _ => trivial)) B0 w0 hw0 (by simp; omega) H A c D d hin (hk0.trans hka.all) hd (by omega) hl2).mono ?_
  rintro e w1 ⟨⟨x1, rfl⟩, u1, u2, h1, hk1, hf1⟩
  have hfoot : ∀ {k}, k = w.heap.size → ¬ Foot hp v1 v2 k := fun hk hf => by have := h.foot_lt hf; omega
  have hB1 := hB0'.kept hk1 (hfoot rfl)
  have a2 := hB1.at 2 rfl
  have lb := hB1.lt
  have T1 := hka.all (S := fun k => ¬ Foot hp v1 v2 k) |>.trans hk1
  have F1 : ∀ k, k < w.heap.size → Foot hp u1 u2 k → Foot hp v1 v2 k := fun k hlt hq => hf1 k (by simp; omega) hq
  have G1 : ¬ Foot hp u1 u2 w.heap.size := fun hf => hfoot rfl (hf1 _ (by simp) hf)
  have hlen : (houseNs H).length = 3 * H.ws.length + (dayNs H H.days.length).length + 2 := by simp [houseNs, watNs_len]; omega
  go_wp2_with fail
  refine (putInt_any h1 p (by rw [List.length_append, hlen]; omega)).mono ?_
  rintro e w2 ⟨⟨x2, rfl⟩, t1, t2, h2, hk2, hf2⟩
  have hB2 := hB1.kept hk2 G1
  have a3 := hB2.at 3 rfl
  have lb2 := hB2.lt
  have G2 : ¬ Foot hp t1 t2 w.heap.size := fun hf => G1 (hf2 _ lb hf)
  go_wp2_with fail
  refine (putInt_any h2 q (by rw [List.length_append, List.length_append, hlen]; simp; omega)).mono ?_
  rintro e w3 ⟨⟨x3, rfl⟩, r1, r2, h3, hk3, hf3⟩
  have hB3 := hB2.kept hk3 G2
  have a4 := hB3.at 4 rfl
  have lb3 := hB3.lt
  have G3 : ¬ Foot hp r1 r2 w.heap.size := fun hf => G2 (hf3 _ lb2 hf)
  go_wp2_with fail
  refine (putInt_any h3 r (by simp [hlen]; omega)).mono ?_
  rintro e w4 ⟨⟨x4, rfl⟩, s1, s2, h4, hk4, hf4⟩
  have hB4 := hB3.kept hk4 G3
  have a5 := hB4.at 5 rfl
  have lb4 := hB4.lt
  go_wp2_with fail
  refine (putInt_any h4 s (by simp [hlen]; omega)).mono ?_
  rintro e w5 hp5
  obtain ⟨x5, rfl⟩ := hp5.1
  go_wp2_with fail
  have hT := Puts.trans T1 F1 (Puts.trans hk2 hf2 (Puts.trans hk3 hf3 (Puts.trans hk4 hf4 hp5)))
  go_end0
  refine ⟨⟨_, rfl⟩, ?_⟩
  simpa using hT.2
end
end Go.Proofs.Ytiajiahfmfckjaa
