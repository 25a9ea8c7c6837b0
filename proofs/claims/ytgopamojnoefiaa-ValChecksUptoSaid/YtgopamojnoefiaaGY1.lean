/-
  ValChecks, where what comes in is of bulk at most 1048576: for every value, which values may be, how many parts they have, and which are events, is what the reference says.
-/
import Derived.Test.YtgopamojnoefiaaGV3
namespace Go.Proofs.Ytgopamojnoefiaa.valChecks
open Go Go.Abs Go.ChangeShapes Go.WideShapes Go.ChangeAt Go.RowKit
open Go.Proofs.Ytgopamojnoefiaa
set_option linter.unusedVariables false
set_option maxRecDepth 100000

theorem own : ownKnob Try.prog.godebug = none := by kernel_rfl
theorem laid : laidOutB Try.prog = true := by kernel_rfl

theorem contract (D : Type) (enc : TypeId × Value → D) (W : World) (base : Nat) (args : Array Value) (ds gs : List (DataW D)) (before : List MemPlace)
    (hval : ∀ (j : Nat) t v, Try.f3.params[j]? = some t → args[j]? = some v → Value.okWide Try.prog W .any base t v)
    (hW : DataW.Whole enc Try.prog Try.f3.params.toList Rows.valChecksSpec.vars false W args.toList ds gs before) (hk : Rows.uptoSmall D (ds ++ gs) = true) :
    Calls Try.prog 3 args W fun e W' => ∃ v, e = .returned v ∧ Rows.valChecksSpec.post enc Try.prog Try.f3 false true false false W args v W' := by
  have hW0 := hW
  obtain ⟨p, q, hA, hV, _, _, _⟩ := hW0
  rw [Try.params3] at hA
  obtain ⟨v0, vs0, d0, ds0, p0, q0, _, rfl, _, _, r0⟩ := trodAll_cons hA
  obtain ⟨_, rfl, _⟩ := trodAll_nil r0
  obtain ⟨rfl, _⟩ := trodVars_none hV
  have hb : Rows.uptoBulkAll [d0] ≤ 1048576 := of_decide_eq_true hk
  simp only [Rows.uptoBulkAll] at hb
  refine law_callsS (tb := 4) (closed_of (S := [25, 22, 2, 23]) (by kernel_rfl)) laid Try.underlying4 rfl (by kernel_rfl) rfl (by kernel_rfl) (by kernel_rfl) hval hW rfl ?_
  intro H avs hw hAV
  rw [Try.params3] at hAV
  match avs, hAV with
  | [v], hAV =>
    obtain ⟨hav, _⟩ := hAV
    unfold AV at hav
    rw [Try.underlying25] at hav
    obtain ⟨cs, rfl, har⟩ := hav
    obtain ⟨d, hd, hsz, _⟩ := val_of_AR _ (Nat.le_refl _) har
    obtain ⟨H', hr⟩ := checks_run hw (rdVal_of hd) (by omega)
    exact (ev1_sound (lf := 0) (callOf_ok c3) (.fn 3 [.agg cs.toArray]) H _ H' hr).mono fun r h hh => hh.1

theorem lifted (os : Os) (started : os.Started) (D : Type) (enc : TypeId × Value → D) (F : Stop.Interp) :
    ReturnsInHanded {} Try.checked os 3 .any ((Rows.OpenSpec.upto Rows.valChecksSpec).pre6 enc Try.prog Try.f3 Rows.valChecksUptoRow.domain false) (((Rows.OpenSpec.upto Rows.valChecksSpec).at F).post enc Try.prog Try.f3 false true false false) := by
  refine returnsInHanded_of_cond (C := Try.checked) (s := Rows.OpenSpec.upto Rows.valChecksSpec) (k := Rows.uptoSmall) rfl own started (by kernel_rfl) Try.func3
    (OpenSpec.witness (enc := enc) (C := Try.checked) (s := Rows.OpenSpec.upto Rows.valChecksSpec) (k := Rows.uptoSmall) rfl false ⟨#[], #[.agg #[.int .i64 0, .int .i64 0, .slice none 0 0]], []⟩ 8 (by kernel_rfl) (by kernel_rfl) (by kernel_rfl)
      (x := ([.agg [.lit (.int .i64 0), .lit (.int .i64 0), .nil]], [], [])) (by kernel_rfl) rfl (by kernel_rfl)) ?_
  intro W base args ds gs before hval hW _ hk _
  exact contract D enc W base args ds gs before hval hW hk

theorem valChecks_holds : Rows.ValChecksUptoSaid :=
  OpenClaim.holds_of_cond 3 Try.f3 rfl rfl rfl rfl rfl rfl rfl ⟨rfl, rfl, rfl, rfl, rfl⟩ rfl rfl rfl rfl rfl (by kernel_rfl) Try.func3 (by kernel_rfl)
    (of_decide_eq_true (by kernel_rfl)) (by unfold Func.isWrapper; first | (rw [if_pos (by decide +kernel)]; kernel_rfl) | (rw [if_neg (by decide +kernel)]; exact ⟨rfl, rfl⟩))
    (fun os started D enc _ F => lifted os started D enc F)
end Go.Proofs.Ytgopamojnoefiaa.valChecks
