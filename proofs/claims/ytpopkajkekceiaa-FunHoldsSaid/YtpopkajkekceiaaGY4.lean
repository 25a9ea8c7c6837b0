/-
  FunHolds: for every function, each node is done once, behind all beneath it, the root last, and variables stand as they should; no condition.
-/
import Derived.Test.YtpopkajkekceiaaGW7
import Derived.Test.YtpopkajkekceiaaRows
namespace Go.Proofs.Ytpopkajkekceiaa.funHolds
open Go Go.Abs Go.ChangeShapes Go.WideShapes Go.ChangeAt Go.RowKit
open Go.Proofs.Ytpopkajkekceiaa
set_option linter.unusedVariables false
set_option maxRecDepth 100000

theorem own : ownKnob Try.prog.godebug = none := by kernel_rfl
theorem laid : laidOutB Try.prog = true := by kernel_rfl

theorem contract (D : Type) (enc : TypeId × Value → D) (W : World) (base : Nat) (args : Array Value) (ds gs : List (DataW D)) (before : List MemPlace)
    (hval : ∀ (j : Nat) t v, Try.f6.params[j]? = some t → args[j]? = some v → Value.okWide Try.prog W .any base t v)
    (hW : DataW.Whole enc Try.prog Try.f6.params.toList Rows.funHoldsSpec.vars false W args.toList ds gs before) :
    Calls Try.prog 6 args W fun e W' => ∃ v, e = .returned v ∧ Rows.funHoldsSpec.post enc Try.prog Try.f6 false true false false W args v W' := by
  have hW0 := hW
  obtain ⟨p, q, hA, hV, _, _, _⟩ := hW0
  rw [Try.params6] at hA
  obtain ⟨v0, vs0, d0, ds0, p0, q0, _, rfl, _, _, r0⟩ := trodAll_cons hA
  obtain ⟨_, rfl, _⟩ := trodAll_nil r0
  obtain ⟨rfl, _⟩ := trodVars_none hV
  refine law_calls (tb := 4) 5 laid Try.underlying4 rfl (by kernel_rfl) rfl (by kernel_rfl) (by kernel_rfl) hval hW rfl ?_
  intro H avs hw hAV
  rw [Try.params6] at hAV
  match avs, hAV with
  | [v], hAV =>
    obtain ⟨hav, _⟩ := hAV
    unfold AV at hav
    rw [Try.underlying24] at hav
    obtain ⟨cs, rfl, har⟩ := hav
    obtain ⟨f, hf⟩ := fun_of_AR har
    obtain ⟨lf, H', hr⟩ := holds_run hw hf
    exact (ev1_sound (lf := lf) (callH_ok lf) (.fn 6 [.agg cs.toArray]) H _ H' hr).mono fun r h hh => hh.1

set_option maxRecDepth 100000 in
theorem lifted (os : Os) (started : os.Started) (D : Type) (enc : TypeId × Value → D) :
    ReturnsInHanded {} Try.checked os 6 .any (Rows.funHoldsSpec.pre6 enc Try.prog Try.f6 Rows.funHoldsRow.domain false) (Rows.funHoldsSpec.post enc Try.prog Try.f6 false true false false) := by
  refine returnsInHanded_of_change (C := Try.checked) own started (by kernel_rfl) Try.func6
    (ChangeSpec.witness6 (enc := enc) (C := Try.checked) (s := Rows.funHoldsSpec) false ⟨#[], #[.agg #[.int .i64 0, .slice none 0 0]], []⟩ 8 (by kernel_rfl) (by kernel_rfl) (by kernel_rfl) (by kernel_rfl)) ?_
  intro W base args ds gs before hval hW _ _
  exact contract D enc W base args ds gs before hval hW

theorem funHolds_holds : Rows.FunHoldsSaid :=
  OpenClaim.holds_of_wide 6 Try.f6 rfl rfl rfl rfl rfl rfl rfl ⟨rfl, rfl, rfl, rfl, rfl⟩ rfl rfl rfl rfl rfl (by kernel_rfl) Try.func6 (by kernel_rfl)
    (of_decide_eq_true (by kernel_rfl)) (by unfold Func.isWrapper; first | (rw [if_pos (by decide +kernel)]; kernel_rfl) | (rw [if_neg (by decide +kernel)]; exact ⟨rfl, rfl⟩))
    (fun os started D enc _ => lifted os started D enc)
end Go.Proofs.Ytpopkajkekceiaa.funHolds
