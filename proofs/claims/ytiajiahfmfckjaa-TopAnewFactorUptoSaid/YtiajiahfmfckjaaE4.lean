/- The walk of the examples' house. -/
import Derived.Test.YtiajiahfmfckjaaE3
namespace Go.Proofs.Ytiajiahfmfckjaa
open Go.RowKit
set_option maxRecDepth 100000

theorem span56_any (x y : Int) (w : World) : Calls Try.prog 56 #[.int .i64 x, .int .i64 y] w fun e w' => e = .returned (.agg #[.int .i64 x, .int .i64 y]) ∧ w' = w.alloc (.cells #[.int .i64 x, .int .i64 y] 42) := by
  go_enter Try.func56, Try.ntmps56
  go_wp2_with fail
  exact bodyPost_ret (v := .agg #[.int .i64 x, .int .i64 y]) (by simp [results, Try.results56, go_sem]) rfl ⟨rfl, rfl⟩
theorem ratio57_any (x y : Int) (w : World) : Calls Try.prog 57 #[.int .i64 x, .int .i64 y] w fun e w' => e = .returned (.agg #[.int .i64 x, .int .i64 y]) ∧ w' = w.alloc (.cells #[.int .i64 x, .int .i64 y] 48) := by
  go_enter Try.func57, Try.ntmps57
  go_wp2_with fail
  exact bodyPost_ret (v := .agg #[.int .i64 x, .int .i64 y]) (by simp [results, Try.results57, go_sem]) rfl ⟨rfl, rfl⟩

abbrev watC : Array Value := #[.string sWolf, .int .i64 100, .int .i64 100, .int .i64 0, .string sBerta, .int .i64 110, .int .i64 116, .int .i64 1, .string sCarl, .int .i64 94, .int .i64 100, .int .i64 1]
theorem nums3 {W : World} {b : Nat} {x y z : Int} (h : Blk W b 3 #[.int .i64 x, .int .i64 y, .int .i64 z]) : Nums W (some ⟨b, 0, none⟩) 3 (ix [x, y, z]) := fun _ =>
  ⟨b, 0, rfl, fun i hi => by
    obtain rfl | rfl | rfl : i = 0 ∨ i = 1 ∨ i = 2 := by omega
    · exact h.at 0 rfl
    · exact h.at 1 rfl
    · exact h.at 2 rfl⟩
theorem wats3 {W : World} {b : Nat} {more : List (List Int)} (h : Blk W b 64 watC) : WatsN W (some ⟨b, 0, none⟩) (hH more) 3 := fun _ =>
  ⟨b, 0, rfl, fun i hi => by
    obtain rfl | rfl | rfl : i = 0 ∨ i = 1 ∨ i = 2 := by omega
    · exact ⟨h.at 0 rfl, h.at 1 rfl, h.at 2 rfl, h.at 3 rfl⟩
    · exact ⟨h.at 4 rfl, h.at 5 rfl, h.at 6 rfl, h.at 7 rfl⟩
    · exact ⟨h.at 8 rfl, h.at 9 rfl, h.at 10 rfl, h.at 11 rfl⟩⟩
theorem names3 (more : List (List Int)) (i : Nat) : ((hH more).w i).name.size ≤ 1000000000000000000 := by
  match i with
  | 0 => show sWolf.size ≤ _; decide
  | 1 => show sBerta.size ≤ _; decide
  | 2 => show sCarl.size ≤ _; decide
  | _ + 3 => show (default : Wat).name.size ≤ _; decide
theorem hin0 {W : World} {b4 b5 b6 b7 d : Nat} (h4 : Blk W b4 64 watC) (h5 : Blk W b5 3 #[.int .i64 60, .int .i64 53, .int .i64 (-1)]) (h6 : Blk W b6 3 #[.int .i64 (-1), .int .i64 90, .int .i64 104])
    (c0 : W.cell? ⟨b7, 0, none⟩ = some (.slice (some ⟨b5, 0, none⟩) 3 3)) (c1 : W.cell? ⟨b7, 1, none⟩ = some (.slice (some ⟨b6, 0, none⟩) 3 3)) : HIn W (hH []) (some ⟨b4, 0, none⟩) 3 (some ⟨b7, 0, none⟩) d :=
  ⟨wats3 h4, by decide, by decide, by decide, names3 _, fun _ => ⟨b7, 0, rfl, fun i hi => by
    have hi : i < 2 := hi
    obtain rfl | rfl : i = 0 ∨ i = 1 := by omega
    · exact ⟨_, _, c0, nums3 h5, by decide⟩
    · exact ⟨_, _, c1, nums3 h6, by decide⟩⟩⟩
theorem hin1 {W : World} {b4 b5 b6 b7 b8 d c : Nat} (h4 : Blk W b4 64 watC) (h5 : Blk W b5 3 #[.int .i64 60, .int .i64 53, .int .i64 (-1)]) (h6 : Blk W b6 3 #[.int .i64 (-1), .int .i64 90, .int .i64 104]) (h8 : Blk W b8 3 #[.int .i64 50, .int .i64 (-1), .int .i64 60])
    (c0 : W.cell? ⟨b7, 0, none⟩ = some (.slice (some ⟨b5, 0, none⟩) 3 3)) (c1 : W.cell? ⟨b7, 1, none⟩ = some (.slice (some ⟨b6, 0, none⟩) 3 3)) (c2 : W.cell? ⟨b7, 2, none⟩ = some (.slice (some ⟨b8, 0, none⟩) 3 c)) : HIn W (hH [[50, -1, 60]]) (some ⟨b4, 0, none⟩) 3 (some ⟨b7, 0, none⟩) d :=
  ⟨wats3 h4, by decide, by decide, by decide, names3 _, fun _ => ⟨b7, 0, rfl, fun i hi => by
    have hi : i < 3 := hi
    obtain rfl | rfl | rfl : i = 0 ∨ i = 1 ∨ i = 2 := by omega
    · exact ⟨_, _, c0, nums3 h5, by decide⟩
    · exact ⟨_, _, c1, nums3 h6, by decide⟩
    · exact ⟨_, _, c2, nums3 h8, by decide⟩⟩⟩

theorem houseW (w : World) (o0 o1 o2 o3 : Obj) (W : World) (hW : W = ((((((w.alloc o0).alloc o1).alloc o2).alloc o3).alloc (.cells watC 64)).alloc (.cells #[.int .i64 60, .int .i64 53, .int .i64 (-1)] 3)).alloc (.cells #[.int .i64 (-1), .int .i64 90, .int .i64 104] 3)) :
    Blk W (w.heap.size + 4) 64 watC ∧ Blk W (w.heap.size + 5) 3 #[.int .i64 60, .int .i64 53, .int .i64 (-1)] ∧ Blk W (w.heap.size + 6) 3 #[.int .i64 (-1), .int .i64 90, .int .i64 104] ∧ W.heap.size = w.heap.size + 7 ∧ Kept All w W ∧ (∀ t c, o0 = .cells c t → Blk W w.heap.size t c) := by
  subst hW
  exact ⟨((Blk.new' _ _ (by simp)).alloc _).alloc _, (Blk.new' _ _ (by simp)).alloc _, Blk.new' _ _ (by simp), by simp, (((((((Kept.refl _ _).alloc _).alloc _).alloc _).alloc _).alloc _).alloc _).alloc _, fun t c e => by subst e; exact ((((((Blk.new _ _ _).alloc _).alloc _).alloc _).alloc _).alloc _).alloc _⟩

set_option maxHeartbeats 2000000 in
theorem house0_any (w : World) : Calls Try.prog 55 #[.slice none 0 0] w fun e w' => ∃ A D d, e = .returned (.agg #[.slice A (hH []).ws.length 3, .slice D (hH []).days.length d]) ∧ HIn w' (hH []) A 3 D d ∧ Kept All w w' := by
  go_enter Try.func55, Try.ntmps55
  go_wp2_with fail
  refine (span56_any _ _ _).mono ?_
  rintro e w1 ⟨rfl, rfl⟩
  go_wp2_with fail
  refine (span56_any _ _ _).mono ?_
  rintro e w1 ⟨rfl, rfl⟩
  go_wp2_with fail
  refine (span56_any _ _ _).mono ?_
  rintro e w1 ⟨rfl, rfl⟩
  go_wp2_with fail
  obtain ⟨h4, h5, h6, hz, hk, -⟩ := houseW w (.cells #[.slice (some ⟨w.heap.size + 1 + 1 + 1 + 1, 0, none⟩) 3 3, .slice (some ⟨w.heap.size + 1 + 1 + 1 + 1 + 1 + 1 + 1, 0, none⟩) 2 2] 25) (.cells #[.int .i64 100, .int .i64 100] 42) (.cells #[.int .i64 110, .int .i64 116] 42) (.cells #[.int .i64 94, .int .i64 100] 42) _ rfl
  refine bodyPost_ret (v := .agg #[.slice (some ⟨w.heap.size + 4, 0, none⟩) 3 3, .slice (some ⟨w.heap.size + 7, 0, none⟩) 2 2]) (by simp [results, Try.results55, go_sem]) rfl ⟨some ⟨w.heap.size + 4, 0, none⟩, some ⟨w.heap.size + 7, 0, none⟩, 2, rfl, ?_, hk.alloc _⟩
  have h7 := Blk.new' 28 #[.slice (some ⟨w.heap.size + 5, 0, none⟩) 3 3, .slice (some ⟨w.heap.size + 6, 0, none⟩) 3 3] hz.symm
  exact hin0 (h4.alloc _) (h5.alloc _) (h6.alloc _) (h7.at 0 rfl) (h7.at 1 rfl)

theorem one_cell_at {W : World} {b : Nat} {x : Value} (h : W.cell? ⟨b, 0, none⟩ = some x) : ∀ j u, [x][j]? = some u → W.cell? ((⟨b, 0, none⟩ : Addr).add j) = some u := fun j u hu => by
  match j with
  | 0 => simpa [Addr.add] using (by simpa using hu : x = u) ▸ h
  | _ + 1 => simp at hu
theorem info28 : (Try.prog.info? 28).map (fun i => (i.zero, i.size, i.bytes)) = some (some (.slice none 0 0), 1, 24) := by kernel_rfl

set_option maxHeartbeats 2000000 in
theorem house1_any (w : World) (mb ro c e' : Nat) (hc : w.cell? ⟨mb, 0, none⟩ = some (.slice (some ⟨ro, 0, none⟩) 3 c)) (hr : Blk w ro 3 #[.int .i64 50, .int .i64 (-1), .int .i64 60]) : Calls Try.prog 55 #[.slice (some ⟨mb, 0, none⟩) 1 e'] w fun e w' => ∃ A D d, e = .returned (.agg #[.slice A (hH [[50, -1, 60]]).ws.length 3, .slice D (hH [[50, -1, 60]]).days.length d]) ∧ HIn w' (hH [[50, -1, 60]]) A 3 D d ∧ Kept All w w' := by
  obtain ⟨i0, hi, hz0, hz1, hz2⟩ := info_parts info28
  go_enter Try.func55, Try.ntmps55
  go_wp2_with fail
  refine (span56_any _ _ _).mono ?_
  rintro e w1 ⟨rfl, rfl⟩
  go_wp2_with fail
  refine (span56_any _ _ _).mono ?_
  rintro e w1 ⟨rfl, rfl⟩
  go_wp2_with fail
  refine (span56_any _ _ _).mono ?_
  rintro e w1 ⟨rfl, rfl⟩
  obtain ⟨h4, h5, h6, hz, hk, hR⟩ := houseW w (.cells #[.slice none 0 0, .slice none 0 0] 25) (.cells #[.int .i64 100, .int .i64 100] 42) (.cells #[.int .i64 110, .int .i64 116] 42) (.cells #[.int .i64 94, .int .i64 100] 42) _ rfl
  have h7 := Blk.new' 28 #[.slice (some ⟨w.heap.size + 5, 0, none⟩) 3 3, .slice (some ⟨w.heap.size + 6, 0, none⟩) 3 3] hz.symm
  have hR8 := (hR _ _ rfl).alloc (.cells #[.slice (some ⟨w.heap.size + 5, 0, none⟩) 3 3, .slice (some ⟨w.heap.size + 6, 0, none⟩) 3 3] 28)
  have hk8 := hk.alloc (.cells #[.slice (some ⟨w.heap.size + 5, 0, none⟩) 3 3, .slice (some ⟨w.heap.size + 6, 0, none⟩) 3 3] 28)
  go_wp2_with (at_builtin; go_loud (refine wpList_append_lies _ rfl _ _ 23 rfl w.heap.size 28 i0 (.slice none 0 0) 1 24 Try.underlying23 hi hz0 hz1 hz2 rfl (by decide) (.slice (some ⟨w.heap.size + 7, 0, none⟩) 2 2) 2 [.slice (some ⟨w.heap.size + 5, 0, none⟩) 3 3, .slice (some ⟨w.heap.size + 6, 0, none⟩) 3 3] rfl ⟨rfl, .inr ⟨_, _, _, rfl, by omega, h7, by decide, by decide, rfl, rfl⟩⟩ ⟨mb, 0, none⟩ 1 e' [.slice (some ⟨ro, 0, none⟩) 3 c] rfl rfl (one_cell_at (hk8.cell hc trivial)) (by simp [Value.oneCell']) (by decide) (by decide) (by decide) (by simp; omega) _ rfl ?_); intro g cap w2 hown hgrow hat hlt2; have hkB := (Kept.refl (fun k => k ≠ w.heap.size + 7) _).grown hgrow (fun k hk _ hn => hn (by simpa [Value.ownBlock] using hk.symm)); have R2 := hR8.kept hkB (by omega); have r0 := R2.at 0 rfl; have r1 := R2.at 1 rfl; have z0 := R2.frozen 0; have z1 := R2.frozen 1)
  have hkA : Kept All w w2 := hk8.grown hgrow (fun k hk hlt => by simp [Value.ownBlock] at hk; omega)
  have days := hown.cells (g := g) rfl
  have hg : w.heap.size < g := by
    rcases hat with e | e
    · simp [Value.ownBlock] at e; omega
    · simp at e; omega
  have k4 := (h4.alloc (.cells #[.slice (some ⟨w.heap.size + 5, 0, none⟩) 3 3, .slice (some ⟨w.heap.size + 6, 0, none⟩) 3 3] 28)).kept hkB (by omega)
  have k5 := (h5.alloc (.cells #[.slice (some ⟨w.heap.size + 5, 0, none⟩) 3 3, .slice (some ⟨w.heap.size + 6, 0, none⟩) 3 3] 28)).kept hkB (by omega)
  have k6 := (h6.alloc (.cells #[.slice (some ⟨w.heap.size + 5, 0, none⟩) 3 3, .slice (some ⟨w.heap.size + 6, 0, none⟩) 3 3] 28)).kept hkB (by omega)
  have k8 := hr.kept hkA trivial
  have hro := hr.lt
  have mk : Kept (fun k => k ≠ w.heap.size) w2 (((w2.setCell ⟨w.heap.size, 0, none⟩ (.slice (some ⟨w.heap.size + 4, 0, none⟩) 3 3)).setCell ⟨w.heap.size, 1, none⟩ (.slice (some ⟨g, 0, none⟩) 3 cap))) := ((Kept.refl _ _).setCell (fun _ h => h rfl) _).setCell (fun _ h => h rfl) _
  have R3 := (R2.set 0 (.slice (some ⟨w.heap.size + 4, 0, none⟩) 3 3)).set 1 (.slice (some ⟨g, 0, none⟩) 3 cap)
  have q0 := R3.at 0 rfl
  have q1 := R3.at 1 rfl
  refine bodyPost_ret (v := .agg #[.slice (some ⟨w.heap.size + 4, 0, none⟩) 3 3, .slice (some ⟨g, 0, none⟩) 3 cap]) (by simp [results, Try.results55, go_sem, q0, q1]) rfl ⟨some ⟨w.heap.size + 4, 0, none⟩, some ⟨g, 0, none⟩, cap, rfl, ?_, hkA.weld mk (fun k hk => by omega)⟩
  have d0 := days 0 _ rfl
  have d1 := days 1 _ rfl
  have d2 := days 2 _ rfl
  simp [Addr.add] at d0 d1 d2
  exact hin1 (k4.kept mk (by omega)) (k5.kept mk (by omega)) (k6.kept mk (by omega)) (k8.kept mk (by omega)) (mk.cell d0 (by simp; omega)) (mk.cell d1 (by simp; omega)) (mk.cell d2 (by simp; omega))
end Go.Proofs.Ytiajiahfmfckjaa
