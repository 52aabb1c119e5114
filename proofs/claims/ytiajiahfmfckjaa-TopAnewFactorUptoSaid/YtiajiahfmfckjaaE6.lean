/- The walk of Awake: the document's examples come out. -/
import Derived.Test.YtiajiahfmfckjaaE5
import Derived.Deep.RegionHeld3
namespace Go.Proofs.Ytiajiahfmfckjaa
open Go.RowKit
set_option maxRecDepth 100000

theorem nums_new {W : World} {g : Nat} {x : Int} (hg : g = W.heap.size) : Nums ((W.alloc (.cells #[.int .i64 x] 3)).drew) (some ⟨g, 0, none⟩) [x].length (ix [x]) := fun _ =>
  ⟨g, 0, rfl, fun i hi => by
    obtain rfl : i = 0 := by simpa using hi
    exact (Blk.new' 3 #[.int .i64 x] hg).drew.at 0 rfl⟩

set_option maxHeartbeats 8000000 in
theorem awake_any (w : World) : Calls Try.prog 29 #[] w fun e w' => e = .returned (.bool true) ∧ Kept All w w' := by
  go_enter Try.func29, Try.ntmps29
  go_wp2_with fail
  refine (house0_any _).mono ?_
  rintro e w1 ⟨A, D, d, rfl, hin1, hk1⟩
  go_wp2_with fail
  refine (house1_any _ (w1.heap.size + 1) w1.heap.size 3 1 (by simp [go_sem]) ((Blk.new _ _ _).alloc _)).mono ?_
  rintro e w2 ⟨A', D', d', rfl, hin2, hk2⟩
  have hk02 := hk1.trans (((Kept.refl All w1).alloc (.cells #[.int .i64 50, .int .i64 (-1), .int .i64 60] 3)).alloc (.cells #[.slice (some ⟨w1.heap.size, 0, none⟩) 3 3] 28) |>.trans hk2)
  have hin1' := hin1.kept (((Kept.refl All w1).alloc (.cells #[.int .i64 50, .int .i64 (-1), .int .i64 60] 3)).alloc (.cells #[.slice (some ⟨w1.heap.size, 0, none⟩) 3 3] 28) |>.trans hk2) (fun _ _ => trivial)
  clear hin1 hk1 hk2
  go_wp2_with fail
  obtain ⟨W, hW⟩ : ∃ W, (w2.alloc (.cells #[.slice A (hH []).ws.length 3, .slice D (hH []).days.length d] 25)).alloc (.cells #[.slice A' (hH [[50, -1, 60]]).ws.length 3, .slice D' (hH [[50, -1, 60]]).days.length d'] 25) = W := ⟨_, rfl⟩
  have hkW : Kept All w2 W := by rw [← hW]; exact ((Kept.refl _ _).alloc _).alloc _
  have X1 : Blk W w2.heap.size 25 #[.slice A (hH []).ws.length 3, .slice D (hH []).days.length d] := by rw [← hW]; exact (Blk.new _ _ _).alloc _
  have X2 : Blk W (w2.heap.size + 1) 25 #[.slice A' (hH [[50, -1, 60]]).ws.length 3, .slice D' (hH [[50, -1, 60]]).days.length d'] := by rw [← hW]; exact Blk.new' _ _ (by simp)
  have I1 := hin1'.kept hkW (fun _ _ => trivial)
  have I2 := hin2.kept hkW (fun _ _ => trivial)
  have K := hk02.trans hkW
  rw [hW]
  clear hW hkW hin1' hin2 hk02
  have hc := factor_any (hH []) A 3 D d _ I1 2
  rw [aw1, aw1e] at hc
  refine hc.mono ?_
  clear hc
  rintro e Wn ⟨rfl, hk⟩
  replace X1 := X1.kept (hk.alloc (.cells #[.int .i64 95, .int .i64 100] 42)) trivial
  replace X2 := X2.kept (hk.alloc (.cells #[.int .i64 95, .int .i64 100] 42)) trivial
  have Y1 := Blk.new Wn 42 #[.int .i64 95, .int .i64 100]
  replace I1 := I1.kept (hk.alloc (.cells #[.int .i64 95, .int .i64 100] 42)) (fun _ _ => trivial)
  replace I2 := I2.kept (hk.alloc (.cells #[.int .i64 95, .int .i64 100] 42)) (fun _ _ => trivial)
  replace K := K.trans (hk.alloc (.cells #[.int .i64 95, .int .i64 100] 42))
  clear hk
  have a0 := X1.at 0 rfl
  have a1 := X1.at 1 rfl
  have b0 := X2.at 0 rfl
  have b1 := X2.at 1 rfl
  go_wp2_with fail
  clear a0 a1 b0 b1
  generalize (Wn.alloc (.cells #[.int .i64 95, .int .i64 100] 42)) = Wa at *
  generalize Wn.heap.size = y1 at *
  have hc := number_any (hH []) A 3 D d _ I1 1
  rw [aw2, aw2e] at hc
  refine hc.mono ?_
  clear hc
  rintro e Wn ⟨rfl, hk⟩
  replace X1 := X1.kept (hk.alloc (.cells #[.int .i64 9968, .int .i64 10465] 42)) trivial
  replace X2 := X2.kept (hk.alloc (.cells #[.int .i64 9968, .int .i64 10465] 42)) trivial
  replace Y1 := Y1.kept (hk.alloc (.cells #[.int .i64 9968, .int .i64 10465] 42)) trivial
  have Y2 := Blk.new Wn 42 #[.int .i64 9968, .int .i64 10465]
  replace I1 := I1.kept (hk.alloc (.cells #[.int .i64 9968, .int .i64 10465] 42)) (fun _ _ => trivial)
  replace I2 := I2.kept (hk.alloc (.cells #[.int .i64 9968, .int .i64 10465] 42)) (fun _ _ => trivial)
  replace K := K.trans (hk.alloc (.cells #[.int .i64 9968, .int .i64 10465] 42))
  clear hk
  have a0 := X1.at 0 rfl
  have a1 := X1.at 1 rfl
  have b0 := X2.at 0 rfl
  have b1 := X2.at 1 rfl
  go_wp2_with fail
  clear a0 a1 b0 b1
  generalize (Wn.alloc (.cells #[.int .i64 9968, .int .i64 10465] 42)) = Wa at *
  generalize Wn.heap.size = y2 at *
  have hc := would_any (hH []) A 3 D d _ I1 0 2
  rw [aw3] at hc
  refine hc.mono ?_
  clear hc
  rintro e Wn ⟨rfl, hk⟩
  replace X1 := X1.kept (hk.alloc (.cells #[.int .i64 59, .int .i64 64] 42)) trivial
  replace X2 := X2.kept (hk.alloc (.cells #[.int .i64 59, .int .i64 64] 42)) trivial
  replace Y1 := Y1.kept (hk.alloc (.cells #[.int .i64 59, .int .i64 64] 42)) trivial
  replace Y2 := Y2.kept (hk.alloc (.cells #[.int .i64 59, .int .i64 64] 42)) trivial
  have Y3 := Blk.new Wn 42 #[.int .i64 59, .int .i64 64]
  replace I1 := I1.kept (hk.alloc (.cells #[.int .i64 59, .int .i64 64] 42)) (fun _ _ => trivial)
  replace I2 := I2.kept (hk.alloc (.cells #[.int .i64 59, .int .i64 64] 42)) (fun _ _ => trivial)
  replace K := K.trans (hk.alloc (.cells #[.int .i64 59, .int .i64 64] 42))
  clear hk
  have a0 := X1.at 0 rfl
  have a1 := X1.at 1 rfl
  have b0 := X2.at 0 rfl
  have b1 := X2.at 1 rfl
  go_wp2_with fail
  clear a0 a1 b0 b1
  generalize (Wn.alloc (.cells #[.int .i64 59, .int .i64 64] 42)) = Wa at *
  generalize Wn.heap.size = y3 at *
  have hc := Between_any (hH []) A 3 D d _ I1 1 2
  rw [aw4, aw4e] at hc
  refine hc.mono ?_
  clear hc
  rintro e Wn ⟨rfl, hk⟩
  replace X1 := X1.kept ((hk.alloc (.cells #[.int .i64 57, .int .i64 50] 48)).alloc (.cells #[.int .i64 112, .int .i64 95] 48)) trivial
  replace X2 := X2.kept ((hk.alloc (.cells #[.int .i64 57, .int .i64 50] 48)).alloc (.cells #[.int .i64 112, .int .i64 95] 48)) trivial
  replace Y1 := Y1.kept ((hk.alloc (.cells #[.int .i64 57, .int .i64 50] 48)).alloc (.cells #[.int .i64 112, .int .i64 95] 48)) trivial
  replace Y2 := Y2.kept ((hk.alloc (.cells #[.int .i64 57, .int .i64 50] 48)).alloc (.cells #[.int .i64 112, .int .i64 95] 48)) trivial
  replace Y3 := Y3.kept ((hk.alloc (.cells #[.int .i64 57, .int .i64 50] 48)).alloc (.cells #[.int .i64 112, .int .i64 95] 48)) trivial
  have Y4 := (Blk.new Wn 48 #[.int .i64 57, .int .i64 50]).alloc (.cells #[.int .i64 112, .int .i64 95] 48)
  have Y5 := Blk.new' (w := Wn.alloc (.cells #[.int .i64 57, .int .i64 50] 48)) (g := Wn.heap.size + 1) 48 #[.int .i64 112, .int .i64 95] (by simp)
  replace I1 := I1.kept ((hk.alloc (.cells #[.int .i64 57, .int .i64 50] 48)).alloc (.cells #[.int .i64 112, .int .i64 95] 48)) (fun _ _ => trivial)
  replace I2 := I2.kept ((hk.alloc (.cells #[.int .i64 57, .int .i64 50] 48)).alloc (.cells #[.int .i64 112, .int .i64 95] 48)) (fun _ _ => trivial)
  replace K := K.trans ((hk.alloc (.cells #[.int .i64 57, .int .i64 50] 48)).alloc (.cells #[.int .i64 112, .int .i64 95] 48))
  clear hk
  have a0 := X1.at 0 rfl
  have a1 := X1.at 1 rfl
  have b0 := X2.at 0 rfl
  have b1 := X2.at 1 rfl
  go_wp2_with fail
  clear a0 a1 b0 b1
  generalize ((Wn.alloc (.cells #[.int .i64 57, .int .i64 50] 48)).alloc (.cells #[.int .i64 112, .int .i64 95] 48)) = Wa at *
  generalize Wn.heap.size = y4 at *
  have hc := Next_any (hH []) A 3 D d _ I1
  rw [aw5] at hc
  refine hc.mono ?_
  clear hc
  rintro e Wn ⟨rfl, hk⟩
  replace X1 := X1.kept hk trivial
  replace X2 := X2.kept hk trivial
  replace Y1 := Y1.kept hk trivial
  replace Y2 := Y2.kept hk trivial
  replace Y3 := Y3.kept hk trivial
  replace Y4 := Y4.kept hk trivial
  replace Y5 := Y5.kept hk trivial
  replace I1 := I1.kept hk (fun _ _ => trivial)
  replace I2 := I2.kept hk (fun _ _ => trivial)
  replace K := K.trans hk
  clear hk
  have a0 := X1.at 0 rfl
  have a1 := X1.at 1 rfl
  have b0 := X2.at 0 rfl
  have b1 := X2.at 1 rfl
  go_wp2_with fail
  clear a0 a1 b0 b1
  have hc := wrong_any (hH [[50, -1, 60]]) A' 3 D' d' _ I2
  refine hc.mono ?_
  clear hc
  rintro e Wn ⟨v, rfl, hown, hk⟩
  rw [aw6] at hown
  obtain ⟨wa, wc, rfl, hnum⟩ := owns_nums hown
  rw [aw6]
  replace X1 := X1.kept hk trivial
  replace X2 := X2.kept hk trivial
  replace Y1 := Y1.kept hk trivial
  replace Y2 := Y2.kept hk trivial
  replace Y3 := Y3.kept hk trivial
  replace Y4 := Y4.kept hk trivial
  replace Y5 := Y5.kept hk trivial
  replace I1 := I1.kept hk (fun _ _ => trivial)
  replace I2 := I2.kept hk (fun _ _ => trivial)
  replace K := K.trans hk
  clear hk
  have a0 := X1.at 0 rfl
  have a1 := X1.at 1 rfl
  have b0 := X2.at 0 rfl
  have b1 := X2.at 1 rfl
  go_wp2_with fail
  clear a0 a1 b0 b1
  have hc := factor_any (hH [[50, -1, 60]]) A' 3 D' d' _ I2 0
  rw [aw7] at hc
  generalize facR (hH [[50, -1, 60]]) 0 = R7 at hc
  refine hc.mono ?_
  clear hc
  rintro e Wn ⟨rfl, hk⟩
  replace X1 := X1.kept (hk.alloc (.cells #[.int .i64 R7.1, .int .i64 R7.2] 42)) trivial
  replace X2 := X2.kept (hk.alloc (.cells #[.int .i64 R7.1, .int .i64 R7.2] 42)) trivial
  replace Y1 := Y1.kept (hk.alloc (.cells #[.int .i64 R7.1, .int .i64 R7.2] 42)) trivial
  replace Y2 := Y2.kept (hk.alloc (.cells #[.int .i64 R7.1, .int .i64 R7.2] 42)) trivial
  replace Y3 := Y3.kept (hk.alloc (.cells #[.int .i64 R7.1, .int .i64 R7.2] 42)) trivial
  replace Y4 := Y4.kept (hk.alloc (.cells #[.int .i64 R7.1, .int .i64 R7.2] 42)) trivial
  replace Y5 := Y5.kept (hk.alloc (.cells #[.int .i64 R7.1, .int .i64 R7.2] 42)) trivial
  replace hnum := hnum.kept (hk.alloc (.cells #[.int .i64 R7.1, .int .i64 R7.2] 42)) (fun _ _ => trivial)
  replace I1 := I1.kept (hk.alloc (.cells #[.int .i64 R7.1, .int .i64 R7.2] 42)) (fun _ _ => trivial)
  replace I2 := I2.kept (hk.alloc (.cells #[.int .i64 R7.1, .int .i64 R7.2] 42)) (fun _ _ => trivial)
  replace K := K.trans (hk.alloc (.cells #[.int .i64 R7.1, .int .i64 R7.2] 42))
  clear hk
  have a0 := X1.at 0 rfl
  have a1 := X1.at 1 rfl
  have b0 := X2.at 0 rfl
  have b1 := X2.at 1 rfl
  go_wp2_with fail
  clear a0 a1 b0 b1
  generalize (Wn.alloc (.cells #[.int .i64 R7.1, .int .i64 R7.2] 42)) = Wa at *
  generalize Wn.heap.size = y5 at *
  have hc := would_any (hH []) A 3 D d _ I1 0 0
  rw [aw8] at hc
  generalize (wouA (hH []) 0 0).1 = R8 at hc
  refine hc.mono ?_
  clear hc
  rintro e Wn ⟨rfl, hk⟩
  replace X1 := X1.kept (hk.alloc (.cells #[.int .i64 R8.1, .int .i64 R8.2] 42)) trivial
  replace X2 := X2.kept (hk.alloc (.cells #[.int .i64 R8.1, .int .i64 R8.2] 42)) trivial
  replace Y1 := Y1.kept (hk.alloc (.cells #[.int .i64 R8.1, .int .i64 R8.2] 42)) trivial
  replace Y2 := Y2.kept (hk.alloc (.cells #[.int .i64 R8.1, .int .i64 R8.2] 42)) trivial
  replace Y3 := Y3.kept (hk.alloc (.cells #[.int .i64 R8.1, .int .i64 R8.2] 42)) trivial
  replace Y4 := Y4.kept (hk.alloc (.cells #[.int .i64 R8.1, .int .i64 R8.2] 42)) trivial
  replace Y5 := Y5.kept (hk.alloc (.cells #[.int .i64 R8.1, .int .i64 R8.2] 42)) trivial
  replace hnum := hnum.kept (hk.alloc (.cells #[.int .i64 R8.1, .int .i64 R8.2] 42)) (fun _ _ => trivial)
  replace I1 := I1.kept (hk.alloc (.cells #[.int .i64 R8.1, .int .i64 R8.2] 42)) (fun _ _ => trivial)
  replace I2 := I2.kept (hk.alloc (.cells #[.int .i64 R8.1, .int .i64 R8.2] 42)) (fun _ _ => trivial)
  replace K := K.trans (hk.alloc (.cells #[.int .i64 R8.1, .int .i64 R8.2] 42))
  clear hk
  have a0 := X1.at 0 rfl
  have a1 := X1.at 1 rfl
  have b0 := X2.at 0 rfl
  have b1 := X2.at 1 rfl
  go_wp2_with fail
  clear a0 a1 b0 b1 X1 X2 I1 I2
  generalize (Wn.alloc (.cells #[.int .i64 R8.1, .int .i64 R8.2] 42)) = Wa at *
  have c10 : Wa.cell? ⟨y1, 0, none⟩ = some (.int .i64 95) := Y1.at 0 rfl
  have c11 : Wa.cell? ⟨y1, 1, none⟩ = some (.int .i64 100) := Y1.at 1 rfl
  have c20 : Wa.cell? ⟨y2, 0, none⟩ = some (.int .i64 9968) := Y2.at 0 rfl
  have c21 : Wa.cell? ⟨y2, 1, none⟩ = some (.int .i64 10465) := Y2.at 1 rfl
  have c30 : Wa.cell? ⟨y3, 0, none⟩ = some (.int .i64 59) := Y3.at 0 rfl
  have c31 : Wa.cell? ⟨y3, 1, none⟩ = some (.int .i64 64) := Y3.at 1 rfl
  have c40 : Wa.cell? ⟨y4, 0, none⟩ = some (.int .i64 57) := Y4.at 0 rfl
  have c41 : Wa.cell? ⟨y4, 1, none⟩ = some (.int .i64 50) := Y4.at 1 rfl
  have c50 : Wa.cell? ⟨y4 + 1, 0, none⟩ = some (.int .i64 112) := Y5.at 0 rfl
  have c51 : Wa.cell? ⟨y4 + 1, 1, none⟩ = some (.int .i64 95) := Y5.at 1 rfl
  have hS : ∀ w', Kept All Wa w' → (w'.cell? ⟨y1, 0, none⟩ = some (.int .i64 95) ∧ w'.cell? ⟨y1, 1, none⟩ = some (.int .i64 100) ∧ w'.cell? ⟨y2, 0, none⟩ = some (.int .i64 9968) ∧ w'.cell? ⟨y2, 1, none⟩ = some (.int .i64 10465) ∧ w'.cell? ⟨y3, 0, none⟩ = some (.int .i64 59) ∧ w'.cell? ⟨y3, 1, none⟩ = some (.int .i64 64) ∧ w'.cell? ⟨y4, 0, none⟩ = some (.int .i64 57) ∧ w'.cell? ⟨y4, 1, none⟩ = some (.int .i64 50) ∧ w'.cell? ⟨y4 + 1, 0, none⟩ = some (.int .i64 112) ∧ w'.cell? ⟨y4 + 1, 1, none⟩ = some (.int .i64 95) ∧ Kept All Wa w') := fun w' h => ⟨h.cell c10 trivial, h.cell c11 trivial, h.cell c20 trivial, h.cell c21 trivial, h.cell c30 trivial, h.cell c31 trivial, h.cell c40 trivial, h.cell c41 trivial, h.cell c50 trivial, h.cell c51 trivial, h⟩
  clear Y1 Y2 Y3 Y4 Y5
  simp only [List.append_eq, List.cons_append, List.nil_append]
  have HS := Lib.hid hS
  have HT : Hid (∀ W : World, (W.cell? ⟨y1, 0, none⟩ = some (.int .i64 95) ∧ W.cell? ⟨y1, 1, none⟩ = some (.int .i64 100) ∧ W.cell? ⟨y2, 0, none⟩ = some (.int .i64 9968) ∧ W.cell? ⟨y2, 1, none⟩ = some (.int .i64 10465) ∧ W.cell? ⟨y3, 0, none⟩ = some (.int .i64 59) ∧ W.cell? ⟨y3, 1, none⟩ = some (.int .i64 64) ∧ W.cell? ⟨y4, 0, none⟩ = some (.int .i64 57) ∧ W.cell? ⟨y4, 1, none⟩ = some (.int .i64 50) ∧ W.cell? ⟨y4 + 1, 0, none⟩ = some (.int .i64 112) ∧ W.cell? ⟨y4 + 1, 1, none⟩ = some (.int .i64 95) ∧ Kept All Wa W) → Kept All Wa W) := fun W h => h.2.2.2.2.2.2.2.2.2.2
  have HA : Hid (∀ (W : World) (o : Obj), (W.drew.cell? ⟨y1, 0, none⟩ = some (.int .i64 95) ∧ W.drew.cell? ⟨y1, 1, none⟩ = some (.int .i64 100) ∧ W.drew.cell? ⟨y2, 0, none⟩ = some (.int .i64 9968) ∧ W.drew.cell? ⟨y2, 1, none⟩ = some (.int .i64 10465) ∧ W.drew.cell? ⟨y3, 0, none⟩ = some (.int .i64 59) ∧ W.drew.cell? ⟨y3, 1, none⟩ = some (.int .i64 64) ∧ W.drew.cell? ⟨y4, 0, none⟩ = some (.int .i64 57) ∧ W.drew.cell? ⟨y4, 1, none⟩ = some (.int .i64 50) ∧ W.drew.cell? ⟨y4 + 1, 0, none⟩ = some (.int .i64 112) ∧ W.drew.cell? ⟨y4 + 1, 1, none⟩ = some (.int .i64 95) ∧ Kept All Wa W.drew) → ((W.alloc o).drew.cell? ⟨y1, 0, none⟩ = some (.int .i64 95) ∧ (W.alloc o).drew.cell? ⟨y1, 1, none⟩ = some (.int .i64 100) ∧ (W.alloc o).drew.cell? ⟨y2, 0, none⟩ = some (.int .i64 9968) ∧ (W.alloc o).drew.cell? ⟨y2, 1, none⟩ = some (.int .i64 10465) ∧ (W.alloc o).drew.cell? ⟨y3, 0, none⟩ = some (.int .i64 59) ∧ (W.alloc o).drew.cell? ⟨y3, 1, none⟩ = some (.int .i64 64) ∧ (W.alloc o).drew.cell? ⟨y4, 0, none⟩ = some (.int .i64 57) ∧ (W.alloc o).drew.cell? ⟨y4, 1, none⟩ = some (.int .i64 50) ∧ (W.alloc o).drew.cell? ⟨y4 + 1, 0, none⟩ = some (.int .i64 112) ∧ (W.alloc o).drew.cell? ⟨y4 + 1, 1, none⟩ = some (.int .i64 95) ∧ Kept All Wa (W.alloc o).drew)) := fun W o h => hS _ ((HT W.drew h).trans (show Kept All W.drew (W.alloc o).drew from (Kept.refl All W.drew).alloc o))
  have HB : Hid (∀ W W' : World, Kept All W W' → (W.cell? ⟨y1, 0, none⟩ = some (.int .i64 95) ∧ W.cell? ⟨y1, 1, none⟩ = some (.int .i64 100) ∧ W.cell? ⟨y2, 0, none⟩ = some (.int .i64 9968) ∧ W.cell? ⟨y2, 1, none⟩ = some (.int .i64 10465) ∧ W.cell? ⟨y3, 0, none⟩ = some (.int .i64 59) ∧ W.cell? ⟨y3, 1, none⟩ = some (.int .i64 64) ∧ W.cell? ⟨y4, 0, none⟩ = some (.int .i64 57) ∧ W.cell? ⟨y4, 1, none⟩ = some (.int .i64 50) ∧ W.cell? ⟨y4 + 1, 0, none⟩ = some (.int .i64 112) ∧ W.cell? ⟨y4 + 1, 1, none⟩ = some (.int .i64 95) ∧ Kept All Wa W) → (W'.cell? ⟨y1, 0, none⟩ = some (.int .i64 95) ∧ W'.cell? ⟨y1, 1, none⟩ = some (.int .i64 100) ∧ W'.cell? ⟨y2, 0, none⟩ = some (.int .i64 9968) ∧ W'.cell? ⟨y2, 1, none⟩ = some (.int .i64 10465) ∧ W'.cell? ⟨y3, 0, none⟩ = some (.int .i64 59) ∧ W'.cell? ⟨y3, 1, none⟩ = some (.int .i64 64) ∧ W'.cell? ⟨y4, 0, none⟩ = some (.int .i64 57) ∧ W'.cell? ⟨y4, 1, none⟩ = some (.int .i64 50) ∧ W'.cell? ⟨y4 + 1, 0, none⟩ = some (.int .i64 112) ∧ W'.cell? ⟨y4 + 1, 1, none⟩ = some (.int .i64 95) ∧ Kept All Wa W')) := fun W W' hk h => hS _ ((HT W h).trans hk)
  have HN := Lib.hid hnum
  have HK := Lib.hid K
  clear hS hnum K c10 c11 c20 c21 c30 c31 c40 c41 c50 c51
  go_region_held3 (fun w' => w'.cell? ⟨y1, 0, none⟩ = some (.int .i64 95) ∧ w'.cell? ⟨y1, 1, none⟩ = some (.int .i64 100) ∧ w'.cell? ⟨y2, 0, none⟩ = some (.int .i64 9968) ∧ w'.cell? ⟨y2, 1, none⟩ = some (.int .i64 10465) ∧ w'.cell? ⟨y3, 0, none⟩ = some (.int .i64 59) ∧ w'.cell? ⟨y3, 1, none⟩ = some (.int .i64 64) ∧ w'.cell? ⟨y4, 0, none⟩ = some (.int .i64 57) ∧ w'.cell? ⟨y4, 1, none⟩ = some (.int .i64 50) ∧ w'.cell? ⟨y4 + 1, 0, none⟩ = some (.int .i64 112) ∧ w'.cell? ⟨y4 + 1, 1, none⟩ = some (.int .i64 95) ∧ Kept All Wa w')
    (first
      | exact HS.out _ (Kept.refl _ _).drew
      | exact HA.out _ _ (by assumption)
      | exact HB.out _ _ hki (by assumption))
    (first
      | (go_at_call 56; refine (span56_any _ _ _).mono ?_; rintro e w' ⟨rfl, rfl⟩)
      | (go_at_call 57; refine (ratio57_any _ _ _).mono ?_; rintro e w' ⟨rfl, rfl⟩)
      | (go_at_call 58; have hkk := HT.out _ (by assumption); refine (ints_any [6] [6] _ _ _ _ _ (HN.out.kept hkk (fun _ _ => trivial)) (nums_new (by simp)) (by decide) (by decide)).mono ?_; rintro e w' ⟨rfl, hki⟩))
  go_wp2_with fail
  go_ret
  exact ⟨rfl, HK.out.trans (HT.out _ (by assumption))⟩
end Go.Proofs.Ytiajiahfmfckjaa
