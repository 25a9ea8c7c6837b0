/-
  ValMany: for all two numbers, values of many parts (also of more than there may be) are as the document says; no condition.
-/
import Derived.Test.YtgopamojnoefiaaGV6
namespace Go.Proofs.Ytgopamojnoefiaa.valMany
open Go Go.Abs Go.ChangeShapes Go.WideShapes Go.ChangeAt Go.RowKit
open Go.Proofs.Ytgopamojnoefiaa
set_option linter.unusedVariables false
set_option maxRecDepth 100000

theorem own : ownKnob Try.prog.godebug = none := by kernel_rfl
theorem laid : laidOutB Try.prog = true := by kernel_rfl

theorem contract (D : Type) (enc : TypeId × Value → D) (W : World) (base : Nat) (args : Array Value) (ds gs : List (DataW D)) (before : List MemPlace)
    (hval : ∀ (j : Nat) t v, Try.f5.params[j]? = some t → args[j]? = some v → Value.okWide Try.prog W .any base t v)
    (hW : DataW.Whole enc Try.prog Try.f5.params.toList Rows.valManySpec.vars false W args.toList ds gs before) :
    Calls Try.prog 5 args W fun e W' => ∃ v, e = .returned v ∧ Rows.valManySpec.post enc Try.prog Try.f5 false true false false W args v W' := by
  have hW0 := hW
  obtain ⟨p, q, hA, hV, _, _, _⟩ := hW0
  rw [Try.params5] at hA
  obtain ⟨v0, vs0, d0, ds0, p0, q0, _, rfl, _, _, r0⟩ := trodAll_cons hA
  obtain ⟨v1, vs1, d1, ds1, p1, q1, _, rfl, _, _, r1⟩ := trodAll_cons r0
  obtain ⟨_, rfl, _⟩ := trodAll_nil r1
  obtain ⟨rfl, _⟩ := trodVars_none hV
  refine law_callsS (tb := 4) (closed_of (S := [25, 22, 2, 23, 3]) (by kernel_rfl)) laid Try.underlying4 rfl (by kernel_rfl) rfl (by kernel_rfl) (by kernel_rfl) hval hW rfl ?_
  intro H avs hw hAV
  rw [Try.params5] at hAV
  match avs, hAV with
  | [w0, w1], hAV =>
    obtain ⟨h0, h1, _⟩ := hAV
    unfold AV at h0 h1
    rw [Try.underlying3] at h0 h1
    obtain ⟨n0, hn0, wn0⟩ := AR_int Try.underlying3 h0
    cases hn0
    obtain ⟨n1, hn1, wn1⟩ := AR_int Try.underlying3 h1
    cases hn1
    obtain ⟨H', hr⟩ := vmany_run (deep := n0) (wide := n1) hw
    exact (ev1_sound (lf := 500) call5_ok (.fn 5 [.int .i64 n0, .int .i64 n1]) H _ H' hr).mono fun r h hh => hh.1

theorem lifted (os : Os) (started : os.Started) (D : Type) (enc : TypeId × Value → D) :
    ReturnsInHanded {} Try.checked os 5 .any (Rows.valManySpec.pre6 enc Try.prog Try.f5 Rows.valManyRow.domain false) (Rows.valManySpec.post enc Try.prog Try.f5 false true false false) := by
  refine returnsInHanded_of_change (C := Try.checked) own started (by kernel_rfl) Try.func5
    (ChangeSpec.witness6 (enc := enc) (C := Try.checked) (s := Rows.valManySpec) false ⟨#[], #[.int .i64 0, .int .i64 0], []⟩ 8 (by kernel_rfl) (by kernel_rfl) (by kernel_rfl) (by kernel_rfl)) ?_
  intro W base args ds gs before hval hW _ _
  exact contract D enc W base args ds gs before hval hW

theorem valMany_holds : Rows.ValManySaid :=
  OpenClaim.holds_of_wide 5 Try.f5 rfl rfl rfl rfl rfl rfl rfl ⟨rfl, rfl, rfl, rfl, rfl⟩ rfl rfl rfl rfl rfl (by kernel_rfl) Try.func5 (by kernel_rfl)
    (of_decide_eq_true (by kernel_rfl)) (by unfold Func.isWrapper; first | (rw [if_pos (by decide +kernel)]; kernel_rfl) | (rw [if_neg (by decide +kernel)]; exact ⟨rfl, rfl⟩))
    (fun os started D enc _ => lifted os started D enc)
end Go.Proofs.Ytgopamojnoefiaa.valMany
