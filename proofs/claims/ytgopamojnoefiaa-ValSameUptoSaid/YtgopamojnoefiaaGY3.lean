/-
  ValSame, where what comes in is of bulk at most 1048576: for all two values, which are the same, and that a copy shares nothing, is as the reference says.
-/
import Derived.Test.YtgopamojnoefiaaGV5
namespace Go.Proofs.Ytgopamojnoefiaa.valSame
open Go Go.Abs Go.ChangeShapes Go.WideShapes Go.ChangeAt Go.RowKit
open Go.Proofs.Ytgopamojnoefiaa
set_option linter.unusedVariables false
set_option maxRecDepth 100000

theorem own : ownKnob Try.prog.godebug = none := by kernel_rfl
theorem laid : laidOutB Try.prog = true := by kernel_rfl

theorem contract (D : Type) (enc : TypeId × Value → D) (W : World) (base : Nat) (args : Array Value) (ds gs : List (DataW D)) (before : List MemPlace)
    (hval : ∀ (j : Nat) t v, Try.f6.params[j]? = some t → args[j]? = some v → Value.okWide Try.prog W .any base t v)
    (hW : DataW.Whole enc Try.prog Try.f6.params.toList Rows.valSameSpec.vars false W args.toList ds gs before) (hk : Rows.uptoSmall D (ds ++ gs) = true) :
    Calls Try.prog 6 args W fun e W' => ∃ v, e = .returned v ∧ Rows.valSameSpec.post enc Try.prog Try.f6 false true false false W args v W' := by
  have hW0 := hW
  obtain ⟨p, q, hA, hV, _, _, _⟩ := hW0
  rw [Try.params6] at hA
  obtain ⟨v0, vs0, d0, ds0, p0, q0, _, rfl, _, _, r0⟩ := trodAll_cons hA
  obtain ⟨v1, vs1, d1, ds1, p1, q1, _, rfl, _, _, r1⟩ := trodAll_cons r0
  obtain ⟨_, rfl, _⟩ := trodAll_nil r1
  obtain ⟨rfl, _⟩ := trodVars_none hV
  have hb : Rows.uptoBulkAll [d0, d1] ≤ 1048576 := of_decide_eq_true hk
  simp only [Rows.uptoBulkAll] at hb
  refine law_callsS (tb := 4) (closed_of (S := [25, 22, 2, 23, 3]) (by kernel_rfl)) laid Try.underlying4 rfl (by kernel_rfl) rfl (by kernel_rfl) (by kernel_rfl) hval hW rfl ?_
  intro H avs hw hAV
  rw [Try.params6] at hAV
  match avs, hAV with
  | [w0, w1], hAV =>
    obtain ⟨h0, h1, _⟩ := hAV
    unfold AV at h0 h1
    rw [Try.underlying25] at h0
    obtain ⟨cs0, rfl, har0⟩ := h0
    obtain ⟨e0, hd0, hsz0, _⟩ := val_of_AR _ (Nat.le_refl _) har0
    rw [Try.underlying25] at h1
    obtain ⟨cs1, rfl, har1⟩ := h1
    obtain ⟨e1, hd1, hsz1, _⟩ := val_of_AR _ (Nat.le_refl _) har1
    obtain ⟨H', hr⟩ := vsame_run hw (rdVal_of hd0) (rdVal_of hd1) (by omega) (by omega)
    exact (ev1_sound (lf := 300) call6_ok (.fn 6 [.agg cs0.toArray, .agg cs1.toArray]) H _ H' hr).mono fun r h hh => hh.1

theorem lifted (os : Os) (started : os.Started) (D : Type) (enc : TypeId × Value → D) (F : Stop.Interp) :
    ReturnsInHanded {} Try.checked os 6 .any ((Rows.OpenSpec.upto Rows.valSameSpec).pre6 enc Try.prog Try.f6 Rows.valSameUptoRow.domain false) (((Rows.OpenSpec.upto Rows.valSameSpec).at F).post enc Try.prog Try.f6 false true false false) := by
  refine returnsInHanded_of_cond (C := Try.checked) (s := Rows.OpenSpec.upto Rows.valSameSpec) (k := Rows.uptoSmall) rfl own started (by kernel_rfl) Try.func6
    (OpenSpec.witness (enc := enc) (C := Try.checked) (s := Rows.OpenSpec.upto Rows.valSameSpec) (k := Rows.uptoSmall) rfl false ⟨#[], #[.agg #[.int .i64 0, .int .i64 0, .slice none 0 0], .agg #[.int .i64 0, .int .i64 0, .slice none 0 0]], []⟩ 8 (by kernel_rfl) (by kernel_rfl) (by kernel_rfl)
      (x := ([.agg [.lit (.int .i64 0), .lit (.int .i64 0), .nil], .agg [.lit (.int .i64 0), .lit (.int .i64 0), .nil]], [], [])) (by kernel_rfl) rfl (by kernel_rfl)) ?_
  intro W base args ds gs before hval hW _ hk _
  exact contract D enc W base args ds gs before hval hW hk

theorem valSame_holds : Rows.ValSameUptoSaid :=
  OpenClaim.holds_of_cond 6 Try.f6 rfl rfl rfl rfl rfl rfl rfl ⟨rfl, rfl, rfl, rfl, rfl⟩ rfl rfl rfl rfl rfl (by kernel_rfl) Try.func6 (by kernel_rfl)
    (of_decide_eq_true (by kernel_rfl)) (by unfold Func.isWrapper; first | (rw [if_pos (by decide +kernel)]; kernel_rfl) | (rw [if_neg (by decide +kernel)]; exact ⟨rfl, rfl⟩))
    (fun os started D enc _ F => lifted os started D enc F)
end Go.Proofs.Ytgopamojnoefiaa.valSame
