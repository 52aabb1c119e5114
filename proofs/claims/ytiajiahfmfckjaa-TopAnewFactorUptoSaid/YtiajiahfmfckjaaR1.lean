/- TopAnewFactor's argument, read. -/
import Derived.Test.YtiajiahfmfckjaaBk
import Derived.Test.YtiajiahfmfckjaaE7
namespace Go.Proofs.Ytiajiahfmfckjaa
open Go.RowKit Go.ChangeShapes Go.WideShapes Go.Deep
set_option maxRecDepth 10000

section
variable {H : Type} {enc : TypeId × Value → H} {w : World} {base : Nat} {spare : Nat → Bool} {held : Bool}

theorem rd_span {fuel : Nat} {cs : List Value} {x : DataW H × List MemPlace} (h : DataW.trod enc Try.prog w base spare held fuel 42 cs = some x) : ∃ lo hi : Int, cs = [.int .i64 lo, .int .i64 hi] := by
  obtain ⟨xs, n, rfl, rfl, hl, hxl, hg⟩ := DataW.trod_struct Try.underlying42 h
  rw [show Try.prog.cellsOf 42 = 2 by kernel_rfl] at hl
  match cs, hl with
  | [c0, c1], _ =>
    match xs, hxl with
    | [y0, y1], _ =>
      have h0 := fld hg 0 _ rfl 3 0 1 y0 [c0] rfl rfl (by kernel_rfl) rfl rfl
      have h1 := fld hg 1 _ rfl 3 1 1 y1 [c1] rfl rfl (by kernel_rfl) rfl rfl
      obtain ⟨a, ha, -, -⟩ := DataW.trod_int Try.underlying3 h0
      obtain ⟨b, hb, -, -⟩ := DataW.trod_int Try.underlying3 h1
      simp at ha hb
      subst ha hb
      exact ⟨a, b, rfl⟩

def WatQ (cs : List Value) (d : DataW H) : Prop := ∃ (s : ByteArray) (lo hi off : Int), cs = [.string s, .int .i64 lo, .int .i64 hi, .int .i64 off] ∧ s.size ≤ Rows.uptoBulk d
theorem rd_wat {fuel : Nat} {cs : List Value} {x : DataW H × List MemPlace} (h : DataW.trod enc Try.prog w base spare held fuel 64 cs = some x) : WatQ cs x.1 := by
  obtain ⟨xs, n, rfl, rfl, hl, hxl, hg⟩ := DataW.trod_struct Try.underlying64 h
  rw [show Try.prog.cellsOf 64 = 4 by kernel_rfl] at hl
  match cs, hl with
  | [c0, c1, c2, c3], _ =>
    match xs, hxl with
    | [y0, y1, y2], _ =>
      have h0 := fld hg 0 _ rfl 9 0 1 y0 [c0] rfl rfl (by kernel_rfl) rfl rfl
      have h1 := fld hg 1 _ rfl 42 1 2 y1 [c1, c2] rfl rfl (by kernel_rfl) rfl rfl
      have h2 := fld hg 2 _ rfl 3 3 1 y2 [c3] rfl rfl (by kernel_rfl) rfl rfl
      obtain ⟨s, hs, hy, -⟩ := DataW.trod_string Try.underlying9 h0
      obtain ⟨lo, hi, hlh⟩ := rd_span h1
      obtain ⟨off, ho, -, -⟩ := DataW.trod_int Try.underlying3 h2
      simp at hs hlh ho
      obtain ⟨rfl, rfl⟩ := hlh
      subst hs ho
      refine ⟨s, lo, hi, off, rfl, ?_⟩
      rw [hy]
      simp only [List.map_cons, Rows.uptoBulk, Rows.uptoBulkAll, bulk_string]
      have : s.data.toList.length = s.size := Array.length_toList
      omega

def NumQ (cs : List Value) (_ : DataW H) : Prop := ∃ x : Int, cs = [.int .i64 x]
theorem rd_num {fuel : Nat} {cs : List Value} {x : DataW H × List MemPlace} (h : DataW.trod enc Try.prog w base spare held fuel 3 cs = some x) : NumQ cs x.1 := by
  obtain ⟨n, rfl, -, -⟩ := DataW.trod_int Try.underlying3 h
  exact ⟨n, rfl⟩
theorem rd_nums {fuel : Nat} {cs : List Value} {x : DataW H × List MemPlace} (h : DataW.trod enc Try.prog w base spare held fuel 28 cs = some x) :
    ∃ (A : Option Addr) (l : List Int) (c : Nat), cs = [.slice A l.length c] ∧ Nums w A l.length (ix l) ∧ l.length + 1 ≤ Rows.uptoBulk x.1 := by
  obtain ⟨A, n, c, E, D, rest, rfl, hr⟩ := rd_rows (S := 1) Try.underlying28 (by kernel_rfl) (by decide) NumQ (fun _ _ _ h => rd_num h) h
  have hex : ∀ i, ∃ x : Int, i < n → E i = [.int .i64 x] := fun i => by
    by_cases hi : i < n
    · obtain ⟨x, hx⟩ := (hr.elem i hi).1
      exact ⟨x, fun _ => hx⟩
    · exact ⟨0, fun h => absurd h hi⟩
  refine ⟨A, (List.range n).map fun i => Classical.choose (hex i), c, by simp, fun hn => ?_, by have := hr.bulk_len; simpa using this⟩
  simp only [List.length_map, List.length_range] at hn ⊢
  obtain ⟨b, off, rfl, hc⟩ := hr.at_ hn
  refine ⟨b, off, rfl, fun i hi => ?_⟩
  have := hc i hi 0 (by decide)
  rw [Classical.choose_spec (hex i) hi] at this
  simpa [ix, hi] using this

def DayQ (w : World) (cs : List Value) (d : DataW H) : Prop := ∃ (A : Option Addr) (l : List Int) (c : Nat), cs = [.slice A l.length c] ∧ Nums w A l.length (ix l) ∧ l.length + 1 ≤ Rows.uptoBulk d

theorem rd_house {fuel : Nat} {cs : List Value} {x : DataW H × List MemPlace} (h : DataW.trod enc Try.prog w base spare held fuel 25 cs = some x) (hb : Rows.uptoBulk x.1 ≤ 1048576) :
    ∃ (h : House) (A : Option Addr) (c : Nat) (D : Option Addr) (d : Nat), cs = [.slice A h.ws.length c, .slice D h.days.length d] ∧ HIn w h A c D d ∧ 3 * h.ws.length + (dayNs h h.days.length).length ≤ 10000000 := by
  obtain ⟨xs, n, rfl, rfl, hl, hxl, hg⟩ := DataW.trod_struct Try.underlying25 h
  rw [show Try.prog.cellsOf 25 = 2 by kernel_rfl] at hl
  match cs, hl with
  | [c0, c1], _ =>
    match xs, hxl with
    | [y0, y1], _ =>
      have h0 := fld hg 0 _ rfl 22 0 1 y0 [c0] rfl rfl (by kernel_rfl) rfl rfl
      have h1 := fld hg 1 _ rfl 23 1 1 y1 [c1] rfl rfl (by kernel_rfl) rfl rfl
      simp only [List.map_cons, List.map_nil, Rows.uptoBulk, Rows.uptoBulkAll] at hb
      obtain ⟨A, n1, c1', E1, D1, rest1, e1, hr1⟩ := rd_rows (S := 4) Try.underlying22 (by kernel_rfl) (by decide) WatQ (fun _ _ _ h => rd_wat h) h0
      obtain ⟨D, n2, c2', E2, D2, rest2, e2, hr2⟩ := rd_rows (S := 1) Try.underlying23 (by kernel_rfl) (by decide) (DayQ w) (fun _ _ _ h => rd_nums h) h1
      simp at e1 e2
      subst e1 e2
      have hw : ∀ i, ∃ x : Wat, i < n1 → E1 i = [.string x.name, .int .i64 x.lo, .int .i64 x.hi, .int .i64 x.off] ∧ x.name.size ≤ Rows.uptoBulk (D1 i) := fun i => by
        by_cases hi : i < n1
        · obtain ⟨s, lo, hi', off, he, hs⟩ := (hr1.elem i hi).1
          exact ⟨⟨s, lo, hi', off⟩, fun _ => ⟨he, hs⟩⟩
        · exact ⟨default, fun h => absurd h hi⟩
      have hd : ∀ i, ∃ x : List Int, i < n2 → ∃ A c, E2 i = [.slice A x.length c] ∧ Nums w A x.length (ix x) ∧ x.length + 1 ≤ Rows.uptoBulk (D2 i) := fun i => by
        by_cases hi : i < n2
        · obtain ⟨A, l, c, he, hn, hb⟩ := (hr2.elem i hi).1
          exact ⟨l, fun _ => ⟨A, c, he, hn, hb⟩⟩
        · exact ⟨[], fun h => absurd h hi⟩
      let h : House := ⟨(List.range n1).map fun i => Classical.choose (hw i), (List.range n2).map fun i => Classical.choose (hd i)⟩
      have hwi : ∀ i, i < n1 → h.w i = Classical.choose (hw i) := fun i hi => by simp [h, House.w, hi]
      have hdi : ∀ i, i < n2 → h.d i = Classical.choose (hd i) := fun i hi => by simp [h, House.d, hi]
      have hwl : h.ws.length = n1 := by simp [h]
      have hdl : h.days.length = n2 := by simp [h]
      have b1 := hr1.bulk_len
      have b2 := hr2.bulk_len
      refine ⟨h, A, c1', D, c2', by rw [hwl, hdl], ⟨fun hn => ?_, by omega, by omega, by rw [hwl]; exact hr1.cap, fun i => ?_, fun hn => ?_⟩, ?_⟩
      · rw [hwl] at hn
        obtain ⟨b, off, rfl, hc⟩ := hr1.at_ hn
        refine ⟨b, off, rfl, fun i hi => ?_⟩
        rw [hwl] at hi
        have he := (Classical.choose_spec (hw i) hi).1
        have q := hc i hi
        rw [he] at q
        rw [hwi i hi]
        exact ⟨q 0 (by decide), q 1 (by decide), q 2 (by decide), q 3 (by decide)⟩
      · by_cases hi : i < n1
        · rw [hwi i hi]
          have := (Classical.choose_spec (hw i) hi).2
          have := hr1.bulk_elem hi
          omega
        · have : h.w i = default := by
            simp only [House.w, List.getD_eq_getElem?_getD]
            rw [List.getElem?_eq_none (by omega)]
            rfl
          rw [this]
          show (default : Wat).name.size ≤ _
          decide
      · rw [hdl] at hn
        obtain ⟨b, off, rfl, hc⟩ := hr2.at_ hn
        refine ⟨b, off, rfl, fun i hi => ?_⟩
        rw [hdl] at hi
        obtain ⟨A', c', he, hn', hb'⟩ := Classical.choose_spec (hd i) hi
        have q := hc i hi 0 (by decide)
        rw [he] at q
        rw [hdi i hi]
        have := hr2.bulk_elem hi
        exact ⟨A', c', by simpa using q, hn', by omega⟩
      · rw [hwl, hdl]
        have hsum : ∀ k, k ≤ n2 → (dayNs h k).length ≤ Rows.uptoBulkAll ((List.range k).map D2) := by
          intro k
          induction k with
          | zero => intro _; simp [dayNs]
          | succ k ih =>
            intro hk
            have := ih (by omega)
            obtain ⟨A', c', he, hn', hb'⟩ := Classical.choose_spec (hd k) (by omega)
            rw [List.range_succ, List.map_append, bulk_append]
            simp only [dayNs, List.length_append, List.map_cons, List.map_nil, Rows.uptoBulkAll, hdi k (by omega), List.length_cons]
            omega
        have := hsum n2 (Nat.le_refl _)
        have := hr2.bulk
        omega
end
end Go.Proofs.Ytiajiahfmfckjaa
