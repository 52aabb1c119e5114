/- Puts of a whole house. -/
import Derived.Test.YtiajiahfmfckjaaD5
namespace Go.Proofs.Ytiajiahfmfckjaa
open Go.RowKit
set_option maxRecDepth 10000

section
variable {base hp : Nat} {ns : List Int} {ss : List ByteArray} {v1 v2 : Value} {w : World}

theorem puts59_any (h : HeapAt base w hp ns ss v1 v2) (A : Option Addr) (H : House) (c : Nat) (hA : WatsN w A H H.ws.length) (hd : ∀ b off, A = some ⟨b, off, none⟩ → 0 < H.ws.length → ¬ Foot hp v1 v2 b)
    (hl : ns.length + 3 * H.ws.length + 3 ≤ 1000000000000) (hl2 : ss.length + H.ws.length ≤ 1000000000000) :
    Calls Try.prog 59 #[ptr hp, .slice A H.ws.length c] w (Puts base hp v1 v2 w (ns ++ (H.ws.length : Int) :: watNs H H.ws.length) (ss ++ watSs H H.ws.length)) := by
  go_enter Try.func59, Try.ntmps59
  go_wp2_with fail
  refine (putWats_any h A H c hA hd hl hl2).mono ?_
  rintro e w' hp'
  obtain ⟨v, rfl⟩ := hp'.1
  go_wp2_with fail
  go_end0
  exact ⟨⟨_, rfl⟩, hp'.2⟩

theorem puts60_any (h : HeapAt base w hp ns ss v1 v2) (B0 : Nat) (w0 : World) (hw0 : w0.heap.size ≤ B0) (hB0 : B0 ≤ w.heap.size) (A : Option Addr) (H : House) (c : Nat) (hA0 : DaysN w0 A H) (hk0 : Kept (fun k => k < B0) w0 w) (hd : ∀ k, k < B0 → ¬ Foot hp v1 v2 k)
    (hl : ns.length + (dayNs H H.days.length).length + 1 ≤ 1000000000000) (hnd : H.days.length ≤ 1000000000000000000) :
    Calls Try.prog 60 #[ptr hp, .slice A H.days.length c] w (Puts base hp v1 v2 w (ns ++ (H.days.length : Int) :: dayNs H H.days.length) ss) := by
  go_enter Try.func60, Try.ntmps60
  go_wp2_with fail
  refine (putDays_any h B0 w0 hw0 hB0 A H c hA0 hk0 hd hl hnd).mono ?_
  rintro e w' hp'
  obtain ⟨v, rfl⟩ := hp'.1
  go_wp2_with fail
  go_end0
  exact ⟨⟨_, rfl⟩, hp'.2⟩

/-- the numbers and the texts of a house -/
def houseNs (H : House) : List Int := (H.ws.length : Int) :: watNs H H.ws.length ++ (H.days.length : Int) :: dayNs H H.days.length
def houseSs (H : House) : List ByteArray := watSs H H.ws.length

set_option maxHeartbeats 1000000 in
theorem putHouse_any (h : HeapAt base w hp ns ss v1 v2) (B0 : Nat) (w0 : World) (hw0 : w0.heap.size ≤ B0) (hB0 : B0 ≤ w.heap.size) (H : House) (A : Option Addr) (c : Nat) (D : Option Addr) (d : Nat) (hin : HIn w0 H A c D d) (hk0 : Kept (fun k => k < B0) w0 w) (hd : ∀ k, k < B0 → ¬ Foot hp v1 v2 k)
    (hl : ns.length + 3 * H.ws.length + (dayNs H H.days.length).length + 10 ≤ 1000000000000) (hl2 : ss.length + H.ws.length ≤ 1000000000000) :
    Calls Try.prog 30 #[ptr hp, .agg #[.slice A H.ws.length c, .slice D H.days.length d]] w (Puts base hp v1 v2 w (ns ++ houseNs H) (ss ++ houseSs H)) := by
  go_enter Try.func30, Try.ntmps30
  go_wp2_with fail
  have hka : Kept All w (w.alloc (.cells #[.slice A H.ws.length c, .slice D H.days.length d] 25)) := (Kept.refl _ _).alloc _
  have hkb : Kept (fun k => k < B0) w0 (w.alloc (.cells #[.slice A H.ws.length c, .slice D H.days.length d] 25)) := hk0.trans hka.all
  refine (puts59_any (h.kept hka (fun _ _ => trivial)) A H c (hin.wats.kept hkb (fun k hk => by omega)) (fun b off e hpos => hd b (by
    obtain ⟨q, qo, e2, hq⟩ := hin.wats hpos
    have hlt : q < w0.heap.size := lt_of_cell (hq 0 hpos).1
    rw [e] at e2
    obtain ⟨rfl, -⟩ : b = q ∧ off = qo := by simpa using e2
    omega)) (by omega) hl2).mono ?_
  rintro e w1 ⟨⟨v, rfl⟩, u1, u2, h1, hk1, hf1⟩
  have hB := (Blk.new w 25 #[.slice A H.ws.length c, .slice D H.days.length d]).kept hk1 (fun hf => by have := h.foot_lt hf; omega)
  have b1 := hB.at 1 rfl
  have lb := hB.lt
  have hs1 := hk1.size
  simp at hs1
  go_wp2_with fail
  refine (puts60_any h1 B0 w0 hw0 (by omega) D H d hin.days (hkb.trans (hk1.mono fun k _ hlt => hd k hlt)) (fun k hlt hf => hd k hlt (hf1 k (by simp; omega) hf)) (by simp [watNs_len]; omega) hin.nd).mono ?_
  rintro e w2 hp2
  obtain ⟨v', rfl⟩ := hp2.1
  go_wp2_with fail
  have hT := Puts.trans (hka.all.trans hk1) (fun k hlt hq => hf1 k (by simp; omega) hq) hp2
  go_end0
  refine ⟨⟨_, rfl⟩, ?_⟩
  simpa [houseNs, houseSs] using hT.2
end
end Go.Proofs.Ytiajiahfmfckjaa
