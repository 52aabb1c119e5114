/- The calls that topanew repeats: what each puts. -/
import Derived.Test.YtiajiahfmfckjaaE1
namespace Go.Proofs.Ytiajiahfmfckjaa
open Go.RowKit
set_option maxRecDepth 10000

abbrev anC (H : House) (A : Option Addr) (c : Nat) (D : Option Addr) (d : Nat) (p q r s : Int) : Array Value := #[.slice A H.ws.length c, .slice D H.days.length d, .int .i64 p, .int .i64 q, .int .i64 r, .int .i64 s]

section
variable {w0 : World} {bx : Nat} {H : House} {A : Option Addr} {c : Nat} {D : Option Addr} {d : Nat} {p q r s : Int}

set_option maxHeartbeats 1000000 in
theorem f6_ok (hB : Blk w0 bx 27 (anC H A c D d p q r s)) (hin : HIn w0 H A c D d) : AgainOk w0 6 #[ptr bx] [(chk H).1, (chk H).2.1, (chk H).2.2] := by
  intro W hp hkW hh hle
  have hb := hB.kept hkW trivial
  have b0 := hb.at 0 rfl
  have b1 := hb.at 1 rfl
  go_enter Try.func6, Try.ntmps6
  go_wp2_with fail
  refine (check_any H A c D d W (hin.kept hkW (fun _ _ => trivial))).mono ?_
  rintro e W1 ⟨rfl, hk1⟩
  clear b0 b1
  go_wp2_with fail
  refine (putInt_any (hh.kept hk1 (fun _ _ => trivial)) (chk H).1 (by simp)).mono ?_
  rintro e W2 ⟨⟨v, rfl⟩, u1, u2, h2, hk2, hf2⟩
  go_wp2_with fail
  refine (putInt_any h2 (chk H).2.1 (by simp)).mono ?_
  rintro e W3 ⟨⟨v3, rfl⟩, t1, t2, h3, hk3, hf3⟩
  go_wp2_with fail
  refine (putErrno_any h3 (chk H).2.2 (by simp)).mono ?_
  rintro e W4 hp4
  obtain ⟨v4, rfl⟩ := hp4.1
  go_wp2_with fail
  go_ret
  obtain ⟨-, x1, x2, h4, hk4, hf4⟩ := Puts.trans (hk1.all.trans hk2) (fun k hk hq => hf2 k (by have := hk1.size; omega) hq) (Puts.trans hk3 hf3 hp4)
  exact again_plain (by simpa using h4) hk4 hf4

set_option maxHeartbeats 1000000 in
theorem f11_ok (hB : Blk w0 bx 27 (anC H A c D d p q r s)) (hin : HIn w0 H A c D d) : AgainOk w0 11 #[ptr bx] [(facR H p).1, (facR H p).2, facE H p] := by
  intro W hp hkW hh hle
  have hb := hB.kept hkW trivial
  have b0 := hb.at 0 rfl
  have b1 := hb.at 1 rfl
  have b2 := hb.at 2 rfl
  go_enter Try.func11, Try.ntmps11
  go_wp2_with fail
  refine (factor_any H A c D d W (hin.kept hkW (fun _ _ => trivial)) p).mono ?_
  rintro e W1 ⟨rfl, hk1⟩
  clear b0 b1 b2
  go_wp2_with fail
  have hka := hk1.alloc (.cells #[.int .i64 (facR H p).1, .int .i64 (facR H p).2] 42)
  refine (putSpan_any (hh.kept hka (fun _ _ => trivial)) (facR H p) (by simp)).mono ?_
  rintro e W2 ⟨⟨v, rfl⟩, u1, u2, h2, hk2, hf2⟩
  go_wp2_with fail
  refine (putErrno_any h2 (facE H p) (by simp)).mono ?_
  rintro e W4 hp4
  obtain ⟨v4, rfl⟩ := hp4.1
  go_wp2_with fail
  go_ret
  obtain ⟨-, x1, x2, h4, hk4, hf4⟩ := Puts.trans (hka.all.trans hk2) (fun k hk hq => hf2 k (by have := hka.size; omega) hq) hp4
  exact again_plain (by simpa using h4) hk4 hf4

set_option maxHeartbeats 1000000 in
theorem f14_ok (hB : Blk w0 bx 27 (anC H A c D d p q r s)) (hin : HIn w0 H A c D d) : AgainOk w0 14 #[ptr bx] [(numR H q).1, (numR H q).2, numE H q] := by
  intro W hp hkW hh hle
  have hb := hB.kept hkW trivial
  have b0 := hb.at 0 rfl
  have b1 := hb.at 1 rfl
  have b3 := hb.at 3 rfl
  go_enter Try.func14, Try.ntmps14
  go_wp2_with fail
  refine (number_any H A c D d W (hin.kept hkW (fun _ _ => trivial)) q).mono ?_
  rintro e W1 ⟨rfl, hk1⟩
  clear b0 b1 b3
  go_wp2_with fail
  have hka := hk1.alloc (.cells #[.int .i64 (numR H q).1, .int .i64 (numR H q).2] 42)
  refine (putSpan_any (hh.kept hka (fun _ _ => trivial)) (numR H q) (by simp)).mono ?_
  rintro e W2 ⟨⟨v, rfl⟩, u1, u2, h2, hk2, hf2⟩
  go_wp2_with fail
  refine (putErrno_any h2 (numE H q) (by simp)).mono ?_
  rintro e W4 hp4
  obtain ⟨v4, rfl⟩ := hp4.1
  go_wp2_with fail
  go_ret
  obtain ⟨-, x1, x2, h4, hk4, hf4⟩ := Puts.trans (hka.all.trans hk2) (fun k hk hq => hf2 k (by have := hka.size; omega) hq) hp4
  exact again_plain (by simpa using h4) hk4 hf4

set_option maxHeartbeats 1000000 in
theorem f16_ok (hB : Blk w0 bx 27 (anC H A c D d p q r s)) (hin : HIn w0 H A c D d) : AgainOk w0 16 #[ptr bx] [((wouA H q p).1).1, ((wouA H q p).1).2, (wouA H q p).2] := by
  intro W hp hkW hh hle
  have hb := hB.kept hkW trivial
  have b0 := hb.at 0 rfl
  have b1 := hb.at 1 rfl
  have b2 := hb.at 2 rfl
  have b3 := hb.at 3 rfl
  go_enter Try.func16, Try.ntmps16
  go_wp2_with fail
  refine (would_any H A c D d W (hin.kept hkW (fun _ _ => trivial)) q p).mono ?_
  rintro e W1 ⟨rfl, hk1⟩
  clear b0 b1 b2 b3
  go_wp2_with fail
  have hka := hk1.alloc (.cells #[.int .i64 ((wouA H q p).1).1, .int .i64 ((wouA H q p).1).2] 42)
  refine (putSpan_any (hh.kept hka (fun _ _ => trivial)) ((wouA H q p).1) (by simp)).mono ?_
  rintro e W2 ⟨⟨v, rfl⟩, u1, u2, h2, hk2, hf2⟩
  go_wp2_with fail
  refine (putErrno_any h2 ((wouA H q p).2) (by simp)).mono ?_
  rintro e W4 hp4
  obtain ⟨v4, rfl⟩ := hp4.1
  go_wp2_with fail
  go_ret
  obtain ⟨-, x1, x2, h4, hk4, hf4⟩ := Puts.trans (hka.all.trans hk2) (fun k hk hq => hf2 k (by have := hka.size; omega) hq) hp4
  exact again_plain (by simpa using h4) hk4 hf4

set_option maxHeartbeats 1000000 in
theorem f18_ok (hB : Blk w0 bx 27 (anC H A c D d p q r s)) (hin : HIn w0 H A c D d) : AgainOk w0 18 #[ptr bx] [(bwA H r s).1.1, (bwA H r s).1.2, (bwA H r s).2.1, (bwA H r s).2.2, bwE H r s] := by
  intro W hp hkW hh hle
  have hb := hB.kept hkW trivial
  have b0 := hb.at 0 rfl
  have b1 := hb.at 1 rfl
  have b4 := hb.at 4 rfl
  have b5 := hb.at 5 rfl
  have hcall := Between_any H A c D d W (hin.kept hkW (fun _ _ => trivial)) r s
  generalize bwA H r s = X at *
  go_enter Try.func18, Try.ntmps18
  go_wp2_with fail
  refine hcall.mono ?_
  clear hcall
  rintro e W1 ⟨rfl, hk1⟩
  clear b0 b1 b4 b5
  go_wp2_with fail
  have hka := (hk1.alloc (.cells #[.int .i64 X.1.1, .int .i64 X.1.2] 48)).alloc (.cells #[.int .i64 X.2.1, .int .i64 X.2.2] 48)
  have hY1 : Blk ((W1.alloc (.cells #[.int .i64 X.1.1, .int .i64 X.1.2] 48)).alloc (.cells #[.int .i64 X.2.1, .int .i64 X.2.2] 48)) (W1.heap.size + 1) 48 #[.int .i64 X.2.1, .int .i64 X.2.2] := Blk.new' _ _ (by simp)
  have hlt1 : (W1.heap.size + 1) < ((W1.alloc (.cells #[.int .i64 X.1.1, .int .i64 X.1.2] 48)).alloc (.cells #[.int .i64 X.2.1, .int .i64 X.2.2] 48)).heap.size := by simp
  refine (putRatio_any (hh.kept hka (fun _ _ => trivial)) X.1 (by simp)).mono ?_
  rintro e W2 ⟨⟨v, rfl⟩, u1, u2, h2, hk2, hf2⟩
  have hlp := hh.blk.lt
  have hs1 := hk1.size
  have hY2 := hY1.kept hk2 (fun hq => by have := foot_nil.1 hq; omega)
  have y0 := hY2.at 0 rfl
  have y1 := hY2.at 1 rfl
  go_wp2_with fail
  refine (putRatio_any h2 X.2 (by simp)).mono ?_
  rintro e W3 ⟨⟨v3, rfl⟩, t1, t2, h3, hk3, hf3⟩
  go_wp2_with fail
  refine (putErrno_any h3 (bwE H r s) (by simp)).mono ?_
  rintro e W4 hp4
  obtain ⟨v4, rfl⟩ := hp4.1
  go_wp2_with fail
  go_ret
  obtain ⟨-, x1, x2, h4, hk4, hf4⟩ := Puts.trans (hka.all.trans hk2) (fun k hk hq => hf2 k (by have := hka.size; omega) hq) (Puts.trans hk3 hf3 hp4)
  exact again_plain (by simpa using h4) hk4 hf4

set_option maxHeartbeats 1000000 in
theorem f21_ok (hB : Blk w0 bx 27 (anC H A c D d p q r s)) (hin : HIn w0 H A c D d) : AgainOk w0 21 #[ptr bx] [(nextA H).1, (nextA H).2.1, (nextA H).2.2] := by
  intro W hp hkW hh hle
  have hb := hB.kept hkW trivial
  have b0 := hb.at 0 rfl
  have b1 := hb.at 1 rfl
  go_enter Try.func21, Try.ntmps21
  go_wp2_with fail
  refine (Next_any H A c D d W (hin.kept hkW (fun _ _ => trivial))).mono ?_
  rintro e W1 ⟨rfl, hk1⟩
  clear b0 b1
  go_wp2_with fail
  refine (putInt_any (hh.kept hk1 (fun _ _ => trivial)) (nextA H).1 (by simp)).mono ?_
  rintro e W2 ⟨⟨v, rfl⟩, u1, u2, h2, hk2, hf2⟩
  go_wp2_with fail
  refine (putInt_any h2 (nextA H).2.1 (by simp)).mono ?_
  rintro e W3 ⟨⟨v3, rfl⟩, t1, t2, h3, hk3, hf3⟩
  go_wp2_with fail
  refine (putErrno_any h3 (nextA H).2.2 (by simp)).mono ?_
  rintro e W4 hp4
  obtain ⟨v4, rfl⟩ := hp4.1
  go_wp2_with fail
  go_ret
  obtain ⟨-, x1, x2, h4, hk4, hf4⟩ := Puts.trans (hk1.all.trans hk2) (fun k hk hq => hf2 k (by have := hk1.size; omega) hq) (Puts.trans hk3 hf3 hp4)
  exact again_plain (by simpa using h4) hk4 hf4

set_option maxHeartbeats 1000000 in
theorem f23_ok (hB : Blk w0 bx 27 (anC H A c D d p q r s)) (hin : HIn w0 H A c D d) : AgainOk w0 23 #[ptr bx] (((wrongA H).1.length : Int) :: (wrongA H).1 ++ [(wrongA H).2]) := by
  intro W hp hkW hh hle
  have hlen := wrongA_len H
  have hb := hB.kept hkW trivial
  have b0 := hb.at 0 rfl
  have b1 := hb.at 1 rfl
  have hcall := wrong_any H A c D d W (hin.kept hkW (fun _ _ => trivial))
  generalize wrongA H = X at *
  go_enter Try.func23, Try.ntmps23
  go_wp2_with fail
  refine hcall.mono ?_
  clear hcall
  rintro e W1 ⟨v, rfl, hown, hk1⟩
  clear b0 b1
  obtain ⟨A1, c1, rfl, hnum⟩ := owns_nums hown
  go_wp2_with fail
  have hka := hk1.alloc (.cells #[.slice A1 X.1.length c1] 28)
  have hY1 : Blk (W1.alloc (.cells #[.slice A1 X.1.length c1] 28)) W1.heap.size 28 #[.slice A1 X.1.length c1] := Blk.new _ _ _
  have hown1 := hown.alloc (.cells #[.slice A1 X.1.length c1] 28)
  have hlp := hh.blk.lt
  have hs1 := hk1.size
  refine (puts25_any (hh.kept hka (fun _ _ => trivial)) A1 X.1 c1 (hnum.kept ((Kept.refl All _).alloc _) (fun _ _ => trivial)) (fun b off e hpos hq => by
    subst e
    have := foot_nil.1 hq
    have := (owns_lt hown (g := b) rfl).1
    omega) (by simp; omega)).mono ?_
  rintro e W2 ⟨⟨v, rfl⟩, u1, u2, h2, hk2, hf2⟩
  go_wp2_with fail
  refine (putErrno_any h2 X.2 (by simp; omega)).mono ?_
  rintro e W4 hp4
  obtain ⟨v4, rfl⟩ := hp4.1
  go_wp2_with fail
  go_ret
  have hlt : W1.heap.size < (W1.alloc (.cells #[.slice A1 X.1.length c1] 28)).heap.size := by simp
  obtain ⟨-, x1, x2, h4, hk4, hf4⟩ := Puts.trans hk2 hf2 hp4
  have hY4 := hY1.kept hk4 (fun hq => by have := foot_nil.1 hq; omega)
  have hown4 := owns_kept hown1 hk4 (fun g hg hq => by have := foot_nil.1 hq; have := (owns_lt hown hg).1; omega)
  refine ⟨26, #[ptr W1.heap.size], rfl, enters_of Try.func26 (by kernel_rfl) rfl, x1, x2, by simpa using h4, hka.all.trans (hk4.mono fun k _ hne hq => hne (foot_nil.1 hq)), fun k hk hq => foot_nil.1 (hf4 k (by have := hka.size; omega) hq),
    fun k => (Value.slice A1 X.1.length c1).ownBlock = some k, fun k hk => ⟨(owns_lt hown hk).1, fun hq => ?_⟩, (wipe26_any _ _ _ _ W4 hY4 hown4).mono (by rintro e w ⟨hv, hk⟩; exact ⟨hv, hk⟩)⟩
  have h5 := foot_nil.1 (hf4 k (by have := (owns_lt hown1 hk).2; exact this) hq)
  have := (owns_lt hown hk).1
  omega
end
end Go.Proofs.Ytiajiahfmfckjaa
