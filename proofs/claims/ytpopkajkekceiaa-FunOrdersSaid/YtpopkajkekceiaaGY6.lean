/-
  FunOrders: for every function and every number, nodes come in the order in which they are done, and those that name functions come with these, also if one leaves earlier, and whatever becomes of the function that was told of; no condition.
-/
import Derived.Test.YtpopkajkekceiaaGW11
import Derived.Test.YtpopkajkekceiaaRows
namespace Go.Proofs.Ytpopkajkekceiaa.funOrders
open Go Go.Abs Go.ChangeShapes Go.WideShapes Go.ChangeAt Go.RowKit
open Go.Proofs.Ytpopkajkekceiaa
set_option linter.unusedVariables false
set_option maxRecDepth 100000

theorem own : ownKnob Try.prog.godebug = none := by kernel_rfl
theorem laid : laidOutB Try.prog = true := by kernel_rfl

theorem contract (D : Type) (enc : TypeId × Value → D) (W : World) (base : Nat) (args : Array Value) (ds gs : List (DataW D)) (before : List MemPlace)
    (hval : ∀ (j : Nat) t v, Try.f7.params[j]? = some t → args[j]? = some v → Value.okWide Try.prog W .any base t v)
    (hW : DataW.Whole enc Try.prog Try.f7.params.toList Rows.funOrdersSpec.vars false W args.toList ds gs before) :
    Calls Try.prog 7 args W fun e W' => ∃ v, e = .returned v ∧ Rows.funOrdersSpec.post enc Try.prog Try.f7 false true false false W args v W' := by
  have hW0 := hW
  obtain ⟨p, q, hA, hV, _, _, _⟩ := hW0
  rw [Try.params7] at hA
  obtain ⟨v0, vs0, d0, ds0, p0, q0, _, rfl, _, _, r0⟩ := trodAll_cons hA
  obtain ⟨v1, vs1, d1, ds1, p1, q1, _, rfl, _, _, r1⟩ := trodAll_cons r0
  obtain ⟨_, rfl, _⟩ := trodAll_nil r1
  obtain ⟨rfl, _⟩ := trodVars_none hV
  refine law_calls (tb := 4) 5 laid Try.underlying4 rfl (by kernel_rfl) rfl (by kernel_rfl) (by kernel_rfl) hval hW rfl ?_
  intro H avs hw hAV
  rw [Try.params7] at hAV
  match avs, hAV with
  | [v, a], hAV =>
    obtain ⟨hav, han, _⟩ := hAV
    unfold AV at hav han
    rw [Try.underlying24] at hav
    rw [Try.underlying3] at han
    obtain ⟨cs, rfl, har⟩ := hav
    obtain ⟨f, hf⟩ := fun_of_AR har
    obtain ⟨n, hn, _⟩ := AR_int Try.underlying3 han
    cases hn
    obtain ⟨lf, H', hr⟩ := orders_run (many := n) hw hf
    exact (ev1_sound (lf := lf) (call7_ok lf) (.fn 7 [.agg cs.toArray, .int .i64 n]) H _ H' hr).mono fun r h hh => hh.1

theorem lifted (os : Os) (started : os.Started) (D : Type) (enc : TypeId × Value → D) :
    ReturnsInHanded {} Try.checked os 7 .any (Rows.funOrdersSpec.pre6 enc Try.prog Try.f7 Rows.funOrdersRow.domain false) (Rows.funOrdersSpec.post enc Try.prog Try.f7 false true false false) := by
  refine returnsInHanded_of_change (C := Try.checked) own started (by kernel_rfl) Try.func7
    (ChangeSpec.witness6 (enc := enc) (C := Try.checked) (s := Rows.funOrdersSpec) false ⟨#[], #[.agg #[.int .i64 0, .slice none 0 0], .int .i64 0], []⟩ 8 (by kernel_rfl) (by kernel_rfl) (by kernel_rfl) (by kernel_rfl)) ?_
  intro W base args ds gs before hval hW _ _
  exact contract D enc W base args ds gs before hval hW

theorem funOrders_holds : Rows.FunOrdersSaid :=
  OpenClaim.holds_of_wide 7 Try.f7 rfl rfl rfl rfl rfl rfl rfl ⟨rfl, rfl, rfl, rfl, rfl⟩ rfl rfl rfl rfl rfl (by kernel_rfl) Try.func7 (by kernel_rfl)
    (of_decide_eq_true (by kernel_rfl)) (by unfold Func.isWrapper; first | (rw [if_pos (by decide +kernel)]; kernel_rfl) | (rw [if_neg (by decide +kernel)]; exact ⟨rfl, rfl⟩))
    (fun os started D enc _ => lifted os started D enc)
end Go.Proofs.Ytpopkajkekceiaa.funOrders
