/- TopAnewFactor: no function of package factor changes an argument, or returns memory that it shares with one, or that it keeps; each returns the same once more, when its first result was written over. For every argument of bulk at most 1048576 the law answers true, and the argument reads behind the call as it read before. -/
import Derived.Test.YtiajiahfmfckjaaR1
namespace Go.Proofs.Ytiajiahfmfckjaa
open Go.RowKit Go.ChangeShapes Go.WideShapes Go.Deep Go.ChangeAt
set_option maxRecDepth 100000

theorem own : ownKnob Try.prog.godebug = none := by kernel_rfl
theorem laidOut : laidOutB Try.prog = true := by kernel_rfl

theorem rd_arg {H : Type} {enc : TypeId × Value → H} {w : World} {base b0 : Nat} {spare : Nat → Bool} {held : Bool} {v : Value} {d : DataW H} {ps : List MemPlace} (hok : Value.okWide Try.prog w .any b0 27 v) (h : DataW.Trod enc Try.prog w base spare held 27 v d ps) (hb : Rows.uptoBulk d ≤ 1048576) :
    ∃ (h : House) (A : Option Addr) (c : Nat) (D : Option Addr) (e : Nat) (p q r s : Int), v = anV h A c D e p q r s ∧ HIn w h A c D e ∧ 3 * h.ws.length + (dayNs h h.days.length).length ≤ 10000000 := by
  obtain ⟨cs, rfl, -⟩ := okWide_struct Try.underlying27 hok
  obtain ⟨fuel, hf⟩ := h
  obtain ⟨xs, n, rfl, hx, hl, hxl, hg⟩ := DataW.trod_struct Try.underlying27 hf
  simp only [Prod.mk.injEq] at hx
  obtain ⟨rfl, -⟩ := hx
  rw [show Try.prog.cellsOf 27 = 6 by kernel_rfl] at hl
  obtain ⟨cl⟩ := cs
  simp only [Value.cells] at hl hg
  match cl, hl with
  | [c0, c1, c2, c3, c4, c5], _ =>
    match xs, hxl with
    | [y0, y1, y2, y3, y4], _ =>
      have h0 := fld hg 0 _ rfl 25 0 2 y0 [c0, c1] rfl rfl (by kernel_rfl) rfl rfl
      have h1 := fld hg 1 _ rfl 3 2 1 y1 [c2] rfl rfl (by kernel_rfl) rfl rfl
      have h2 := fld hg 2 _ rfl 3 3 1 y2 [c3] rfl rfl (by kernel_rfl) rfl rfl
      have h3 := fld hg 3 _ rfl 3 4 1 y3 [c4] rfl rfl (by kernel_rfl) rfl rfl
      have h4 := fld hg 4 _ rfl 3 5 1 y4 [c5] rfl rfl (by kernel_rfl) rfl rfl
      simp only [List.map_cons, List.map_nil, Rows.uptoBulk, Rows.uptoBulkAll] at hb
      obtain ⟨h, A, c, D, e, he, hin, hsz⟩ := rd_house h0 (by omega)
      obtain ⟨p, hp⟩ := rd_num h1
      obtain ⟨q, hq⟩ := rd_num h2
      obtain ⟨r, hr⟩ := rd_num h3
      obtain ⟨s, hs⟩ := rd_num h4
      simp at he hp hq hr hs
      obtain ⟨rfl, rfl⟩ := he
      subst hp hq hr hs
      exact ⟨h, A, c, D, e, p, q, r, s, rfl, hin, hsz⟩

theorem contract (H : Type) (enc : TypeId × Value → H) (W : World) (base : Nat) (args : Array Value) (ds gs : List (DataW H)) (before : List MemPlace)
    (hval : ∀ (j : Nat) t v, Try.f3.params[j]? = some t → args[j]? = some v → Value.okWide Try.prog W .any base t v)
    (hW : DataW.Whole enc Try.prog Try.f3.params.toList Rows.topAnewFactorSpec.vars false W args.toList ds gs before) (hk : Rows.uptoSmall H (ds ++ gs) = true) :
    Calls Try.prog 3 args W fun e W' => ∃ v, e = .returned v ∧ Rows.topAnewFactorSpec.post enc Try.prog Try.f3 false true false false W args v W' := by
  have hW' := hW
  obtain ⟨p, q, hA0, hV, rfl, hfz, hnd⟩ := hW
  have hA : DataW.TrodAll enc Try.prog W 0 (fun _ => true) true Try.f3.params.toList args.toList ds p := hA0
  rw [Try.params3] at hA hval
  obtain ⟨v0, vs0, d0, ds0, p0, q0, hargs, rfl, rfl, h0, r0⟩ := trodAll_cons hA
  obtain ⟨rfl, rfl, rfl⟩ := trodAll_nil r0
  obtain rfl : args = #[v0] := by cases args; simp_all
  obtain ⟨rfl, rfl⟩ := trodVars_none hV
  have hb : Rows.uptoBulk d0 ≤ 1048576 := by
    have h := of_decide_eq_true hk
    simp only [List.append_nil, Rows.uptoBulkAll] at h
    omega
  obtain ⟨h, A, c, D, e, x, y, z, t, rfl, hin, hsz⟩ := rd_arg (hval 0 27 v0 rfl rfl) h0 hb
  refine (top_any h A c D e W hin x y z t (by omega)).mono fun e W' ⟨he, hg⟩ => ?_
  subst he
  exact ⟨_, rfl, post_law laidOut hW' rfl (tb := 4) rfl Try.underlying4 rfl (fun u hu => by rw [Try.params3] at hu; obtain rfl : u = 27 := (by simpa using hu); exact ⟨by kernel_rfl, of_decide_eq_true (by kernel_rfl)⟩) hg⟩

theorem lifted (os : Os) (started : os.Started) (H : Type) (enc : TypeId × Value → H) (F : Stop.Interp) :
    ReturnsInHanded {} Try.checked os 3 .any ((Rows.OpenSpec.upto Rows.topAnewFactorSpec).pre6 enc Try.prog Try.f3 Rows.topAnewFactorUptoRow.domain false) (((Rows.OpenSpec.upto Rows.topAnewFactorSpec).at F).post enc Try.prog Try.f3 false true false false) := by
  refine returnsInHanded_of_cond (C := Try.checked) (s := Rows.OpenSpec.upto Rows.topAnewFactorSpec) (k := Rows.uptoSmall) rfl own started (by kernel_rfl) Try.func3
    (OpenSpec.witness (enc := enc) (C := Try.checked) (s := Rows.OpenSpec.upto Rows.topAnewFactorSpec) (k := Rows.uptoSmall) rfl false ⟨#[], #[.agg #[.slice none 0 0, .slice none 0 0, .int .i64 0, .int .i64 0, .int .i64 0, .int .i64 0]], []⟩ 8 (by kernel_rfl) (by kernel_rfl) (by kernel_rfl)
      (x := ([.agg [.agg [.nil, .nil], .lit (.int .i64 0), .lit (.int .i64 0), .lit (.int .i64 0), .lit (.int .i64 0)]], [], [])) (by kernel_rfl) rfl (by kernel_rfl)) ?_
  intro W base args ds gs before hval hW _ hk _
  exact contract H enc W base args ds gs before hval hW hk

theorem over : Rows.topAnewFactorUptoRow.holds Try.pinned (Rows.OpenSpec.upto Rows.topAnewFactorSpec) :=
  OpenClaim.holds_of_cond 3 Try.f3 rfl rfl rfl rfl rfl rfl rfl ⟨rfl, rfl, rfl, rfl, rfl⟩ rfl rfl rfl rfl rfl (by kernel_rfl) Try.func3 (by kernel_rfl)
    (of_decide_eq_true (by kernel_rfl)) (by unfold Func.isWrapper; first | (rw [if_pos (by decide +kernel)]; kernel_rfl) | (rw [if_neg (by decide +kernel)]; exact ⟨rfl, rfl⟩))
    (fun os started H enc _ F => lifted os started H enc F)

theorem factor_proved : Rows.TopAnewFactorUptoSaid := over
#print axioms factor_proved
end Go.Proofs.Ytiajiahfmfckjaa
