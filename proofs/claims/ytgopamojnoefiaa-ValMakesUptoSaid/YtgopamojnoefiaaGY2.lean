/-
  ValMakes, where what comes in is of bulk at most 1048576: for every kind, number and values, the value that Make makes of them, or its error, is what the reference says.
-/
import Derived.Test.YtgopamojnoefiaaGV4
namespace Go.Proofs.Ytgopamojnoefiaa.valMakes
open Go Go.Abs Go.ChangeShapes Go.WideShapes Go.ChangeAt Go.RowKit
open Go.Proofs.Ytgopamojnoefiaa
set_option linter.unusedVariables false
set_option maxRecDepth 100000

theorem own : ownKnob Try.prog.godebug = none := by kernel_rfl
theorem laid : laidOutB Try.prog = true := by kernel_rfl

theorem contract (D : Type) (enc : TypeId × Value → D) (W : World) (base : Nat) (args : Array Value) (ds gs : List (DataW D)) (before : List MemPlace)
    (hval : ∀ (j : Nat) t v, Try.f4.params[j]? = some t → args[j]? = some v → Value.okWide Try.prog W .any base t v)
    (hW : DataW.Whole enc Try.prog Try.f4.params.toList Rows.valMakesSpec.vars false W args.toList ds gs before) (hk : Rows.uptoSmall D (ds ++ gs) = true) :
    Calls Try.prog 4 args W fun e W' => ∃ v, e = .returned v ∧ Rows.valMakesSpec.post enc Try.prog Try.f4 false true false false W args v W' := by
  have hW0 := hW
  obtain ⟨p, q, hA, hV, _, _, _⟩ := hW0
  rw [Try.params4] at hA
  obtain ⟨v0, vs0, d0, ds0, p0, q0, _, rfl, _, _, r0⟩ := trodAll_cons hA
  obtain ⟨v1, vs1, d1, ds1, p1, q1, _, rfl, _, _, r1⟩ := trodAll_cons r0
  obtain ⟨v2, vs2, d2, ds2, p2, q2, _, rfl, _, _, r2⟩ := trodAll_cons r1
  obtain ⟨_, rfl, _⟩ := trodAll_nil r2
  obtain ⟨rfl, _⟩ := trodVars_none hV
  have hb : Rows.uptoBulkAll [d0, d1, d2] ≤ 1048576 := of_decide_eq_true hk
  simp only [Rows.uptoBulkAll] at hb
  refine law_callsS (tb := 4) (closed_of (S := [25, 22, 2, 23, 3]) (by kernel_rfl)) laid Try.underlying4 rfl (by kernel_rfl) rfl (by kernel_rfl) (by kernel_rfl) hval hW rfl ?_
  intro H avs hw hAV
  rw [Try.params4] at hAV
  match avs, hAV with
  | [w0, w1, w2], hAV =>
    obtain ⟨h0, h1, h2, _⟩ := hAV
    unfold AV at h0 h1 h2
    rw [Try.underlying3] at h0
    obtain ⟨n0, hn0, wn0⟩ := AR_int Try.underlying3 h0
    cases hn0
    rw [Try.underlying2] at h1
    obtain ⟨n1, hn1, wn1⟩ := AR_int Try.underlying2 h1
    cases hn1
    rw [Try.underlying23] at h2
    obtain ⟨l2, hd2, hsz2⟩ := vals_of_AR h2
    obtain ⟨H', hr⟩ := makes_run (k := n0) (n := n1) hw hd2 (by omega)
    exact (ev1_sound (lf := 1000) call4_ok (.fn 4 [.int .i64 n0, .int .i64 n1, w2]) H _ H' hr).mono fun r h hh => hh.1

theorem lifted (os : Os) (started : os.Started) (D : Type) (enc : TypeId × Value → D) (F : Stop.Interp) :
    ReturnsInHanded {} Try.checked os 4 .any ((Rows.OpenSpec.upto Rows.valMakesSpec).pre6 enc Try.prog Try.f4 Rows.valMakesUptoRow.domain false) (((Rows.OpenSpec.upto Rows.valMakesSpec).at F).post enc Try.prog Try.f4 false true false false) := by
  refine returnsInHanded_of_cond (C := Try.checked) (s := Rows.OpenSpec.upto Rows.valMakesSpec) (k := Rows.uptoSmall) rfl own started (by kernel_rfl) Try.func4
    (OpenSpec.witness (enc := enc) (C := Try.checked) (s := Rows.OpenSpec.upto Rows.valMakesSpec) (k := Rows.uptoSmall) rfl false ⟨#[], #[.int .i64 0, .int .i64 0, .slice none 0 0], []⟩ 8 (by kernel_rfl) (by kernel_rfl) (by kernel_rfl)
      (x := ([.lit (.int .i64 0), .lit (.int .i64 0), .nil], [], [])) (by kernel_rfl) rfl (by kernel_rfl)) ?_
  intro W base args ds gs before hval hW _ hk _
  exact contract D enc W base args ds gs before hval hW hk

theorem valMakes_holds : Rows.ValMakesUptoSaid :=
  OpenClaim.holds_of_cond 4 Try.f4 rfl rfl rfl rfl rfl rfl rfl ⟨rfl, rfl, rfl, rfl, rfl⟩ rfl rfl rfl rfl rfl (by kernel_rfl) Try.func4 (by kernel_rfl)
    (of_decide_eq_true (by kernel_rfl)) (by unfold Func.isWrapper; first | (rw [if_pos (by decide +kernel)]; kernel_rfl) | (rw [if_neg (by decide +kernel)]; exact ⟨rfl, rfl⟩))
    (fun os started D enc _ F => lifted os started D enc F)
end Go.Proofs.Ytgopamojnoefiaa.valMakes
