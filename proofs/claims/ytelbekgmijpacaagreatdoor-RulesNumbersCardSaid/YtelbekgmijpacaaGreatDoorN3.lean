import Derived.Test.YtelbekgmijpacaaGreatDoorN2
import Derived.Test.YtelbekgmijpacaaGreatDoorT8
import Derived.Test.YtelbekgmijpacaaGreatDoorCards
import Derived.Test.YtelbekgmijpacaaGreatDoorTie
import Derived.Lay
import Derived.SevenTiedAt
import Derived.Stop.Joined
namespace Go.Proofs.YtelbekgmijpacaaGreatDoor.rulesNumbers
open Go.ChangeShapes Go.WideShapes Go.ChangeAt Go.RowKit Go.Abs
theorem own : ownKnob Tryz.prog.godebug = none := by kernel_rfl
theorem laidOut : laidOutB Tryz.prog = true := by kernel_rfl
set_option maxRecDepth 100000 in
theorem globR {W : World} (h : laidMetH Tryz.prog Rows.rulesNumbersRow.laid W) : GlobR E0.G W := by
  rw [MakeChecks.laidMetH_plain _ _ _ (by kernel_rfl)] at h
  refine globR_tab (g := 1) (name := "strings.asciiSpace") (d := Rows.laid_strings_asciiSpace) (k := .u8) (zs := zAscii) (t := 221) (e := 5) (n := 256) h (by
    show _ ∈ [_, _, _, _, _, _, _]
    simp) (by kernel_rfl) (by kernel_rfl) (by kernel_rfl) Tryz.underlying221 Tryz.underlying5 (by kernel_rfl) (by kernel_rfl) ?_
  intro g l hg
  have hg' : G0 g = some l := hg
  unfold G0 at hg'
  split at hg'
  · cases hg'; exact ⟨rfl, rfl⟩
  · cases hg'
set_option maxRecDepth 100000 in
theorem contract (H : Type) (enc : TypeId × Value → H) (W : World) (base : Nat) (args : Array Value) (ds gs : List (DataW H)) (before : List MemPlace)
    (hval : ∀ (j : Nat) t v, Tryz.f3.params[j]? = some t → args[j]? = some v → Value.okWide Tryz.prog W .any base t v)
    (hW : DataW.Whole enc Tryz.prog Tryz.f3.params.toList Rows.rulesNumbersSpec.vars false W args.toList ds gs before) (hL : laidMetH Tryz.prog Rows.rulesNumbersRow.laid W) :
    Calls Tryz.prog 3 args W fun e W' => ∃ v, e = .returned v ∧ Rows.rulesNumbersSpec.post enc Tryz.prog Tryz.f3 false true false false W args v W' := by
  have hW' := hW
  obtain ⟨p, q, hA0, hV, rfl, hfz, hnd⟩ := hW
  have hA : DataW.TrodAll enc Tryz.prog W 0 (fun _ => true) true Tryz.f3.params.toList args.toList ds p := hA0
  rw [Tryz.params3] at hA
  obtain ⟨hargs0, rfl, rfl⟩ := trodAll_nil hA
  obtain ⟨rfl, rfl⟩ := trodVars_none hV
  have hs : args.size = 0 := by rw [← Array.length_toList, hargs0]; rfl
  have h := numbers_calls (fun _ => ⟨0, 0, 0⟩) W args ⟨fun b blk hb => (by cases hb), fun b blk hb => (by cases hb), fun b b' blk blk' hb => (by cases hb), globR hL, fun b blk g l hb => (by cases hb)⟩ ⟨hs, fun i v V hv => by simp at hv⟩
  refine h.mono fun e W' ⟨σ', ae, H', hae, hq⟩ => ?_
  subst hae
  have hst := hq.stood
  have her := hq.er
  cases her with
  | ret _ V hv =>
    cases hv
    exact ⟨_, rfl, law_post (tb := 4) laidOut (fun t ht => by
      rw [Tryz.params3] at ht
      simp at ht) rfl (by kernel_rfl) Tryz.underlying4 rfl hW' hst⟩
def wargs : Array Value := #[]
noncomputable def wworld (os : Os) : World := World.laidAll Tryz.prog os Rows.rulesNumbersRow.laid
theorem laid_met (os : Os) : laidMetH Tryz.prog Rows.rulesNumbersRow.laid ((wworld os).forCall (fun _ _ => 0) ⟨#[], wargs, []⟩).memory := by
  rw [MakeChecks.laidMetH_plain _ _ _ (by kernel_rfl)]
  exact laidMet_laidAll _ (by kernel_rfl) (by kernel_rfl)
theorem reads (os : Os) {H : Type} (enc : TypeId × Value → H) : ∃ places, DataW.whole enc Tryz.prog ((wworld os).forCall (fun _ _ => 0) ⟨#[], wargs, []⟩).memory Tryz.f3.params.toList Rows.rulesNumbersSpec.vars false wargs.toList 8 = some ([], [], places) :=
  ⟨[], by kernel_rfl⟩
end Go.Proofs.YtelbekgmijpacaaGreatDoor.rulesNumbers
