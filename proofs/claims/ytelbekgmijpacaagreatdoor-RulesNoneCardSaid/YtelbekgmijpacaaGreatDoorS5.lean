import Derived.Test.YtelbekgmijpacaaGreatDoorS4
import Derived.Test.YtelbekgmijpacaaGreatDoorT8
import Derived.Test.YtelbekgmijpacaaGreatDoorCards
import Derived.Test.YtelbekgmijpacaaGreatDoorTie
import Derived.Lay
import Derived.SevenTiedAt
import Derived.Stop.Joined
namespace Go.Proofs.YtelbekgmijpacaaGreatDoor.rulesNone
open Go.ChangeShapes Go.WideShapes Go.ChangeAt Go.RowKit Go.Abs
theorem own : ownKnob Tryz.prog.godebug = none := by kernel_rfl
theorem laidOut : laidOutB Tryz.prog = true := by kernel_rfl
set_option maxRecDepth 100000 in
theorem globR {W : World} (h : laidMetH Tryz.prog Rows.rulesNoneRow.laid W) : GlobR E0.G W := by
  rw [MakeChecks.laidMetH_plain _ _ _ (by kernel_rfl)] at h
  refine globR_tab (g := 1) (name := "strings.asciiSpace") (d := Rows.laid_strings_asciiSpace) (k := .u8) (zs := zAscii) (t := 221) (e := 5) (n := 256) h (by
    show _ ∈ [_, _, _, _, _, _, _]
    simp) (by kernel_rfl) (by kernel_rfl) (by kernel_rfl) Tryz.underlying221 Tryz.underlying5 (by kernel_rfl) (by kernel_rfl) ?_
  intro g l hg
  have hg' : G0 g = some l := hg
  unfold G0 at hg'
  split at hg'
  · cases hg'; exact ⟨rfl, rfl⟩
  · cases hg'
set_option maxRecDepth 100000 in
theorem args_rel {W : World} {σ : Nat → Pl} {base : Nat} {args : Array Value} (hs : args.size = 4) (hval : ∀ (j : Nat) t v, Tryz.f4.params[j]? = some t → args[j]? = some v → Value.okWide Tryz.prog W .any base t v) : VRs σ 0 noneArgs args := by
  have h3 : args[3]? = some args[3] := by simp [hs]
  have h := hval 3 51 args[3] (by rw [Tryz.params4]; rfl) h3
  unfold Value.okWide at h
  rw [Tryz.underlying51] at h
  obtain ⟨cs, hc, hcs, _⟩ := h
  have hc5 : cs.size = 5 := hcs.trans (show Tryz.prog.cellsOf 51 = 5 by kernel_rfl)
  refine ⟨hs, fun i v V hv hV => ?_⟩
  match i, hv, hV with
  | 0, hv, hV => cases hv; exact .undef _
  | 1, hv, hV => cases hv; exact .undef _
  | 2, hv, hV => cases hv; exact .undef _
  | 3, hv, hV =>
    cases hv
    rw [h3] at hV
    cases hV
    rw [hc]
    refine .agg _ _ hc5 fun j u U hu hU => ?_
    have : u = .undef := by
      match j, hu with
      | 0, hu => cases hu; rfl
      | 1, hu => cases hu; rfl
      | 2, hu => cases hu; rfl
      | 3, hu => cases hu; rfl
      | 4, hu => cases hu; rfl
    subst this
    exact .undef _
set_option maxRecDepth 100000 in
theorem contract (H : Type) (enc : TypeId × Value → H) (W : World) (base : Nat) (args : Array Value) (ds gs : List (DataW H)) (before : List MemPlace)
    (hval : ∀ (j : Nat) t v, Tryz.f4.params[j]? = some t → args[j]? = some v → Value.okWide Tryz.prog W .any base t v)
    (hW : DataW.Whole enc Tryz.prog Tryz.f4.params.toList Rows.rulesNoneSpec.vars false W args.toList ds gs before) (hL : laidMetH Tryz.prog Rows.rulesNoneRow.laid W) :
    Calls Tryz.prog 4 args W fun e W' => ∃ v, e = .returned v ∧ Rows.rulesNoneSpec.post enc Tryz.prog Tryz.f4 false true false false W args v W' := by
  have hW' := hW
  obtain ⟨p, q, hA0, hV, rfl, hfz, hnd⟩ := hW
  have hA : DataW.TrodAll enc Tryz.prog W 0 (fun _ => true) true Tryz.f4.params.toList args.toList ds p := hA0
  rw [Tryz.params4] at hA
  obtain ⟨v0, vs0, d0, ds0, p0, q0, hargs0, rfl, rfl, h0, r0⟩ := trodAll_cons hA
  obtain ⟨v1, vs1, d1, ds1, p1, q1, rfl, rfl, rfl, h1, r1⟩ := trodAll_cons r0
  obtain ⟨v2, vs2, d2, ds2, p2, q2, rfl, rfl, rfl, h2, r2⟩ := trodAll_cons r1
  obtain ⟨v3, vs3, d3, ds3, p3, q3, rfl, rfl, rfl, h3, r3⟩ := trodAll_cons r2
  obtain ⟨rfl, rfl, rfl⟩ := trodAll_nil r3
  obtain ⟨rfl, rfl⟩ := trodVars_none hV
  have hs : args.size = 4 := by rw [← Array.length_toList, hargs0]; rfl
  have h := none_calls (fun _ => ⟨0, 0, 0⟩) W args ⟨fun b blk hb => (by cases hb), fun b blk hb => (by cases hb), fun b b' blk blk' hb => (by cases hb), globR hL, fun b blk g l hb => (by cases hb)⟩ (args_rel hs hval)
  refine h.mono fun e W' ⟨σ', ae, H', hae, hq⟩ => ?_
  subst hae
  have hst := hq.stood
  have her := hq.er
  cases her with
  | ret _ V hv =>
    cases hv
    exact ⟨_, rfl, law_post (tb := 4) laidOut (fun t ht => by
      rw [Tryz.params4] at ht
      have hm : t ∈ [9, 9, 28, 51] := by simpa using ht
      have hall : ([9, 9, 28, 51].all fun u => Tryz.prog.readableRec u && decide (u < Tryz.prog.types.size)) = true := by kernel_rfl
      have := List.all_eq_true.1 hall t hm
      simpa using this) rfl (by kernel_rfl) Tryz.underlying4 rfl hW' hst⟩
def wargs : Array Value := #[.string .empty, .string .empty, .int .i64 0, .agg #[.slice none 0 0, .slice none 0 0, .int .i64 0, .int .i64 0, .int .i64 0]]
noncomputable def wworld (os : Os) : World := World.laidAll Tryz.prog os Rows.rulesNoneRow.laid
theorem laid_met (os : Os) : laidMetH Tryz.prog Rows.rulesNoneRow.laid ((wworld os).forCall (fun _ _ => 0) ⟨#[], wargs, []⟩).memory := by
  rw [MakeChecks.laidMetH_plain _ _ _ (by kernel_rfl)]
  exact laidMet_laidAll _ (by kernel_rfl) (by kernel_rfl)
theorem reads (os : Os) {H : Type} (enc : TypeId × Value → H) : ∃ places, DataW.whole enc Tryz.prog ((wworld os).forCall (fun _ _ => 0) ⟨#[], wargs, []⟩).memory Tryz.f4.params.toList Rows.rulesNoneSpec.vars false wargs.toList 8 = some ([.lit (.string []), .lit (.string []), .lit (.int .i64 0), .agg [.nil, .nil, .lit (.int .i64 0), .lit (.int .i64 0), .lit (.int .i64 0)]], [], places) :=
  ⟨[], by kernel_rfl⟩
end Go.Proofs.YtelbekgmijpacaaGreatDoor.rulesNone
