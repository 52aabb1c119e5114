/- The walk of package factor's truths: all levels, and the iterator's contract. -/
import Derived.Test.YtiajiahfmfckjaaC6
namespace Go.Proofs.Ytiajiahfmfckjaa
open Go.RowKit
set_option maxRecDepth 10000
section
variable {base n1 hb km : Nat} {h : House} {but : Int} {A : Option Addr} {c : Nat} {D : Option Addr} {d l bs bf bn bd bY : Nat} {xs : List (F3 × N4)} {J Jx : List (F3 × N4) → World → Prop}

theorem leaf_any (hv : Valid h) (hbase : base ≤ n1) (hJ : ∀ pre A B, J pre A → n1 ≤ A.heap.size → Kept (fun k => k < n1 ∧ ¬ k = km) A B → J pre B)
    (hY : ∀ pre x A, J pre A → n1 ≤ A.heap.size → (pre ++ [x]) <+: xs → YieldAt Fence.wide 0 Try.prog l (encT x) A fun e B =>
      (e = .returned (.bool true) ∧ J (pre ++ [x]) B ∧ Kept (fun k => (k < base ∨ k = bs) ∨ n1 ≤ k) A B) ∨ (e = .returned (.bool false) ∧ Jx (pre ++ [x]) B ∧ Kept (fun k => (k < base ∨ k = bs) ∨ n1 ≤ k) A B))
    (h1 : n1 ≤ bf) (h2 : n1 ≤ bn) (h3 : n1 ≤ bd) (h4 : n1 ≤ bY) (f : F3) (pre : List (F3 × N4)) (W : World) (hj : J pre W) (hn : n1 ≤ W.heap.size) (he : Env base W hb km h but A c D d l bs bf bn bd bY f)
    (hx : (pre ++ enum h but 0 f) <+: xs) :
    Calls Try.prog 72 #[.int .i64 h.ws.length, ptr bs, ptr bf, ptr bn, ptr bd, ptr bY] W (NextPost base n1 hb km h but A c D d l bs bf bn bd bY xs J Jx 0 f pre W) := by
  obtain ⟨v, ok, hl, (⟨rfl, hg⟩ | ⟨rfl, rfl⟩)⟩ := cache_lookup keyOk84 Try.underlying110 zero87 he.hp.cache (f.a, f.b, f.c)
  · obtain rfl : v = nV (numbersOf h but f) := hg
    exact leaf_cached hv hJ hY h1 h2 h3 h4 f pre W hj hn he hx hl
  · exact leaf_fresh hv hbase hJ hY h1 h2 h3 h4 f pre W hj hn he hx hl

theorem fC_set (f : F3) (k : Nat) (v : Int) (hk : k < 3) : (fC f).setIfInBounds k (.int .i64 v) = fC (f.set k v) := by
  obtain rfl | rfl | rfl : k = 0 ∨ k = 1 ∨ k = 2 := by omega
  all_goals rfl

theorem flat_prefix {α β : Type} (g : α → List β) (pre : List β) (xs : List β) (l : List α) (k : Nat) (hk : k < l.length) (h : (pre ++ l.flatMap g) <+: xs) : ((pre ++ (l.take k).flatMap g) ++ g l[k]) <+: xs := by
  refine List.IsPrefix.trans ?_ h
  have : l = l.take k ++ l[k] :: l.drop (k + 1) := by rw [← List.drop_eq_getElem_cons hk]; exact (List.take_append_drop k l).symm
  conv => rhs; rw [this]
  rw [List.flatMap_append, List.flatMap_cons, ← List.append_assoc, ← List.append_assoc]
  exact List.prefix_append _ _
theorem flat_snoc {α β : Type} (g : α → List β) (pre : List β) (l : List α) (k : Nat) (hk : k < l.length) : pre ++ (l.take k).flatMap g ++ g l[k] = pre ++ (l.take (k + 1)).flatMap g := by
  rw [List.take_succ_eq_append_getElem hk, List.flatMap_append]
  simp

theorem spanL_length (lo hi : Int) : (spanL lo hi).length = (hi - lo + 1).toNat := by simp [spanL]
theorem spanL_get (lo hi : Int) (k : Nat) (hk : k < (spanL lo hi).length) : (spanL lo hi)[k] = lo + (k : Int) := by simp [spanL]

set_option maxHeartbeats 1000000 in
theorem next_any (hv : Valid h) (hbase : base ≤ n1) (hJ : ∀ pre A B, J pre A → n1 ≤ A.heap.size → Kept (fun k => k < n1 ∧ ¬ k = km) A B → J pre B)
    (hJx : ∀ pre A B, Jx pre A → n1 ≤ A.heap.size → Kept (fun k => k < n1 ∧ ¬ k = km) A B → Jx pre B)
    (hY : ∀ pre x A, J pre A → n1 ≤ A.heap.size → (pre ++ [x]) <+: xs → YieldAt Fence.wide 0 Try.prog l (encT x) A fun e B =>
      (e = .returned (.bool true) ∧ J (pre ++ [x]) B ∧ Kept (fun k => (k < base ∨ k = bs) ∨ n1 ≤ k) A B) ∨ (e = .returned (.bool false) ∧ Jx (pre ++ [x]) B ∧ Kept (fun k => (k < base ∨ k = bs) ∨ n1 ≤ k) A B))
    (h1 : n1 ≤ bf) (h2 : n1 ≤ bn) (h3 : n1 ≤ bd) (h4 : n1 ≤ bY) : ∀ (b : Nat) (f : F3) (pre : List (F3 × N4)) (W : World), b ≤ h.ws.length → J pre W → n1 ≤ W.heap.size → Env base W hb km h but A c D d l bs bf bn bd bY f →
    (pre ++ enum h but b f) <+: xs →
    Calls Try.prog 72 #[.int .i64 ((h.ws.length - b : Nat) : Int), ptr bs, ptr bf, ptr bn, ptr bd, ptr bY] W (NextPost base n1 hb km h but A c D d l bs bf bn bd bY xs J Jx b f pre W) := by
  intro b
  induction b with
  | zero => exact fun f pre W _ hj hn he hx => leaf_any hv hbase hJ hY h1 h2 h3 h4 f pre W hj hn he hx
  | succ b ih =>
    intro f pre W hb1 hj hn he hx
    have hnw := hv.nw
    obtain ⟨k, hk⟩ : ∃ k, h.ws.length - (b + 1) = k := ⟨_, rfl⟩
    have hk1 : h.ws.length - b = k + 1 := by omega
    have hkl : k < h.ws.length := by omega
    have hk3 : k < 3 := by omega
    have hk3' : (k : Int) < 3 := by omega
    obtain ⟨v1, v2, v3, v4, -, -⟩ := hv.wat k hkl
    rw [hk]
    have HK1 := Lib.hid hk1
    have HK := Lib.hid hk
    clear hk hk1
    have s0 := he.s.at 0 rfl
    have k0 := he.hp.blk.at 0 rfl
    obtain ⟨ab, ao, rfl, hwc⟩ := he.hp.inn.inn.wats (by omega)
    obtain ⟨c1, c2, c3, c4⟩ := hwc k hkl
    clear hwc
    go_enter Try.func72, Try.ntmps72
    go_wp2_with fail
    obtain ⟨L, hL⟩ : ∃ L, spanL (h.w k).lo (h.w k).hi = L := ⟨_, rfl⟩
    have hLl : L.length = ((h.w k).hi - (h.w k).lo + 1).toNat := by rw [← hL, spanL_length]
    have hLg : ∀ q (hq : q < L.length), L[q] = (h.w k).lo + (q : Int) := fun q hq => by subst hL; exact spanL_get _ _ _ hq
    have hen : enum h but (b + 1) f = L.flatMap fun n => enum h but b (f.set k n) := by rw [enum, HK.out, hL]
    have HEN := Lib.hid hen
    rw [hen] at hx
    have HLL := Lib.hid hLl
    have HLG := Lib.hid hLg
    have hLb : L.length ≤ 7 := by omega
    clear hL hLl hLg hen c1 c2 c3 c4 s0 k0
    have hst : Kept All W (W.alloc (.cells #[.int .i64 (h.w k).lo, .int .i64 (h.w k).hi] 42)) := (Kept.refl _ _).alloc _
    go_loopw [9] (fun i wr => ∃ (q : Nat) (g : F3), q ≤ L.length ∧ i = .int .i64 ((h.w k).lo + q) ∧ J (pre ++ (L.take q).flatMap fun n => enum h but b (f.set k n)) wr ∧ n1 ≤ wr.heap.size ∧
        Hid (∀ i, i < 3 → (i < k ∨ h.ws.length ≤ i) → g.get i = f.get i) ∧ Env base wr hb km h but (some ⟨ab, ao, none⟩) c D d l bs bf bn bd bY g ∧ Blk wr W.heap.size 42 #[.int .i64 (h.w k).lo, .int .i64 (h.w k).hi] ∧ Kept (fun k => n1 ≤ k ∧ k ≠ bf) W wr)
      (fun i _ => ((h.w k).hi - intOf i + 1).toNat)
    case atStart =>
      exact ⟨0, f, by omega, by simp, by simpa using hJ _ _ _ hj hn hst.all, Nat.le_trans hn hst.size, fun _ _ _ => rfl, he.kept hst (fun _ _ => trivial) trivial trivial trivial trivial trivial, Blk.new _ _ _, hst.all⟩
    case round =>
      obtain ⟨q, g, hq, rfl, hjr, hnr, hg, her, hsp, hkr⟩ := hrel
      have hhi : ((h.w k).lo + (q : Int) ≤ (h.w k).hi) ↔ q < L.length := by rw [HLL.out]; omega
      have p0 := hsp.at 0 rfl
      have p1 := hsp.at 1 rfl
      by_cases hlt : q < L.length
      · have hle : (h.w k).lo + (q : Int) ≤ (h.w k).hi := hhi.2 hlt
        have z0 := her.f.frozen k
        have x0 := her.n.at 0 rfl
        have y0 : wr.cell? ⟨bf, k, none⟩ = some (.int .i64 (g.get k)) := by
          have hk3c : k = 0 ∨ k = 1 ∨ k = 2 := by omega
          rcases hk3c with e | e | e <;> (rw [e]; exact her.f.at _ rfl)
        have nefn : bf ≠ bn := fun e => by
          have h5 := her.f; have h6 := her.n; subst e; unfold Blk at h5 h6; rw [h5] at h6; cases h6
        clear hhi
        go_wp2_with fail
        obtain ⟨W', hW'⟩ : ∃ W', wr.setCell ⟨bf, k, none⟩ (.int .i64 ((h.w k).lo + (q : Int))) = W' := ⟨_, rfl⟩
        have hks : Kept (fun j => j ≠ bf) wr W' := by rw [← hW']; exact (Kept.refl _ _).setCell (fun _ h => h rfl) _
        have hf' : Blk W' bf 84 (fC (g.set k ((h.w k).lo + (q : Int)))) := by rw [← hW', ← fC_set _ _ _ hk3]; exact her.f.set _ _
        rw [hW']
        have ne1 : ∀ {x t cs}, Blk wr x t cs → t ≠ 84 → x ≠ bf := fun hx ht e => by
          have h5 := her.f; subst e; unfold Blk at hx h5; rw [h5] at hx; injection hx with hx; injection hx with _ hx; exact ht hx.symm
        have neb : ∀ x, x < base → x ≠ bf := fun x hx => by omega
        have hj' : J (pre ++ (L.take q).flatMap fun n => enum h but b (f.set k n)) W' := hJ _ _ _ hjr hnr (hks.mono fun x _ hx => by omega)
        have he' : Env base W' hb km h but (some ⟨ab, ao, none⟩) c D d l bs bf bn bd bY (g.set k ((h.w k).lo + (q : Int))) :=
          ⟨her.hp.kept hks neb, her.s.kept hks (ne1 her.s (by decide)), hf', her.n.kept hks (ne1 her.n (by decide)), her.d.kept hks (ne1 her.d (by decide)), her.y.kept hks (ne1 her.y (by decide))⟩
        have heq : enum h but b (g.set k ((h.w k).lo + (q : Int))) = enum h but b (f.set k L[q]) := by
          rw [HLG.out q hlt]
          refine enum_congr hnw b _ _ (by omega) fun i hi hc => ?_
          rw [F3.get_set hk3 hi, F3.get_set hk3 hi]
          split
          · rfl
          · have := HK1.out
            exact hg.out i hi (by omega)
        have hpx : ((pre ++ (L.take q).flatMap fun n => enum h but b (f.set k n)) ++ enum h but b (g.set k ((h.w k).lo + (q : Int)))) <+: xs := by
          rw [heq]; exact flat_prefix (fun n => enum h but b (f.set k n)) pre xs L q hlt hx
        have hsn : (pre ++ (L.take q).flatMap fun n => enum h but b (f.set k n)) ++ enum h but b (g.set k ((h.w k).lo + (q : Int))) = pre ++ (L.take (q + 1)).flatMap fun n => enum h but b (f.set k n) := by
          rw [heq]; exact flat_snoc (fun n => enum h but b (f.set k n)) pre L q hlt
        have hgs : ∀ i, i < 3 → (i < k ∨ h.ws.length ≤ i) → (g.set k ((h.w k).lo + (q : Int))).get i = f.get i := fun i hi hc => by
          rw [F3.get_set hk3 hi, if_neg (by omega)]; exact hg.out i hi hc
        have ihc := ih (g.set k ((h.w k).lo + (q : Int))) _ W' (by omega) hj' (Nat.le_trans hnr hks.size) he' hpx
        rw [HK1.out, Int.natCast_add] at ihc
        have hsp' := hsp.kept hks (ne1 hsp (by decide))
        have hkr' := hkr.trans (hks.mono fun x _ hx => hx.2)
        have HSN := Lib.hid hsn
        have HGS := Lib.hid hgs
        have hwl : n1 ≤ W.heap.size ∧ W.heap.size ≠ bf := ⟨hn, fun e => by have := he.f.lt; omega⟩
        clear hW' heq hsn hgs hj' he' hf' y0 z0 x0 p0 p1 hpx ih
        refine ihc.mono ?_
        clear ihc
        rintro e W2 ⟨hn2, (⟨rfl, hj2, hk2, g', hg', he2⟩ | ⟨rfl, hcc, q', hq', hj2⟩)⟩
        · have hsp2 := hsp'.kept hk2 hwl
          rw [HSN.out] at hj2
          go_wp2_with fail
          go_roundw
          case rel =>
            refine ⟨q + 1, g', by omega, by go_num, hj2, hn2, fun i hi hc => ?_, he2, hsp2, hkr'.trans hk2⟩
            have := HK1.out
            rw [hg' i hi (by omega)]
            exact HGS.out i hi hc
          case measure => simp [intOf]; omega
        · go_wp2_with fail
          go_ret
          exact ⟨hn2, .inr ⟨rfl, hcc, q', hq', hj2⟩⟩
      · have hle : ¬ (h.w k).lo + (q : Int) ≤ (h.w k).hi := fun hc => hlt (hhi.1 hc)
        have hqe : q = L.length := by omega
        rw [hqe, List.take_length, ← HEN.out] at hjr
        clear hhi hqe
        go_wp2_with fail
        go_ret
        exact ⟨hnr, .inl ⟨rfl, hjr, hkr, g, fun i hi hc => hg.out i hi (by have := HK.out; omega), her⟩⟩
end
end Go.Proofs.Ytiajiahfmfckjaa
