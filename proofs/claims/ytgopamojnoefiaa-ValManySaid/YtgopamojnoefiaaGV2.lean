/-
  A part of a proof: texts laid behind one another (V9, V10, V11, V12, V13, V14, V15, V16).
-/
import Derived.Test.YtgopamojnoefiaaGV1
namespace Go.Proofs.Ytgopamojnoefiaa
open Go Go.Abs
set_option maxRecDepth 100000
set_option linter.unusedSimpArgs false
set_option linter.unusedVariables false

/-! ### parts (50), as data -/
mutual
/-- A value's parts, each ahead of its own ones; of each one's own at most 256. -/
def preC : Nat → ValD → List (Nat × ValD)
  | dp, .mk k n l => (dp, .mk k n l) :: presC (dp + 1) 256 l
def presC : Nat → Nat → List ValD → List (Nat × ValD)
  | _, _, [] => []
  | _, 0, _ :: _ => []
  | dp, c + 1, v :: l => preC dp v ++ presC dp c l
end
theorem presC_eq : ∀ (l : List ValD) (dp c : Nat), presC dp c l = (l.take c).flatMap (preC dp)
  | [], dp, c => by cases c <;> simp [presC]
  | v :: l, dp, 0 => by simp [presC]
  | v :: l, dp, c + 1 => by simp only [presC, List.take_succ_cons, List.flatMap_cons, presC_eq l dp c]
theorem preC_eq (dp : Nat) (v : ValD) : preC dp v = (dp, v) :: (v.own.take 256).flatMap (preC (dp + 1)) := by
  cases v with | mk k n l => simp only [preC, presC_eq, ValD.own]
theorem preC_pos (dp : Nat) (v : ValD) : 0 < (preC dp v).length := by rw [preC_eq]; simp

/-- What is to do: the last one first. -/
def pend (T : List (Nat × ValD)) : List (Nat × ValD) := T.reverse.flatMap fun x => preC x.1 x.2
theorem pend_step (T : List (Nat × ValD)) (x : Nat × ValD) : pend (T ++ [x]) = x :: pend (T ++ ((x.2.own.take 256).reverse.map fun v => (x.1 + 1, v))) := by
  unfold pend
  simp only [List.reverse_append, List.reverse_cons, List.reverse_nil, List.nil_append, List.singleton_append, List.flatMap_cons, List.flatMap_append, List.cons_append]
  rw [preC_eq]
  simp only [List.cons_append, List.cons.injEq, true_and]
  congr 1
  rw [← List.map_reverse, List.reverse_reverse, List.flatMap_map]
theorem pend_pos {T : List (Nat × ValD)} (h : T ≠ []) : 0 < (pend T).length := by
  rcases List.eq_nil_or_concat T with h0 | ⟨T', x, rfl⟩
  · exact absurd h0 h
  · rw [List.concat_eq_append, pend_step]; simp

/-- A part stands in cells. -/
def PartC (H : Heap) (p : Nat × ValD) (x : List Value) : Prop := ∃ s, x = [.int .i64 p.2.kind, .int .i64 p.2.num, s, .int .i64 (p.1 : Int)] ∧ VAt H p.2 [.int .i64 p.2.kind, .int .i64 p.2.num, s]
theorem PartC.ext {H H' : Heap} (hx : Ext H H') {p : Nat × ValD} {x : List Value} (h : PartC H p x) : PartC H' p x := let ⟨s, a, b⟩ := h; ⟨s, a, b.ext hx⟩
def PartsC (H : Heap) (l : List (Nat × ValD)) (ps : List (List Value)) : Prop := ps.length = l.length ∧ ∀ (i : Nat) p, l[i]? = some p → ∃ x, ps[i]? = some x ∧ PartC H p x
theorem PartsC.ext {H H' : Heap} (hx : Ext H H') {l : List (Nat × ValD)} {ps : List (List Value)} (h : PartsC H l ps) : PartsC H' l ps := ⟨h.1, fun i p hp => let ⟨x, a, b⟩ := h.2 i p hp; ⟨x, a, b.ext hx⟩⟩
theorem PartsC.add {H : Heap} {l : List (Nat × ValD)} {ps : List (List Value)} {p : Nat × ValD} {x : List Value} (h : PartsC H l ps) (hx : PartC H p x) : PartsC H (l ++ [p]) (ps ++ [x]) := by
  refine ⟨by simp [h.1], fun i q hq => ?_⟩
  by_cases hi : i < l.length
  · rw [List.getElem?_append_left hi] at hq
    obtain ⟨y, a, b⟩ := h.2 i q hq
    exact ⟨y, by rw [List.getElem?_append_left (by rw [h.1]; exact hi)]; exact a, b⟩
  · have hi2 : i = l.length := by
      have := (List.getElem?_eq_some_iff.1 hq).1
      simp at this; omega
    subst hi2
    simp at hq
    subst hq
    exact ⟨x, by rw [← h.1]; simp, hx⟩
theorem PartsC.cut {H : Heap} {l : List (Nat × ValD)} {ps : List (List Value)} {p : Nat × ValD} (h : PartsC H (l ++ [p]) ps) : PartsC H l (ps.take l.length) ∧ ∃ x, ps[l.length]? = some x ∧ PartC H p x := by
  have hl := h.1
  simp only [List.length_append, List.length_cons, List.length_nil] at hl
  refine ⟨⟨by rw [List.length_take]; omega, fun i q hq => ?_⟩, h.2 l.length p (by simp)⟩
  have hi := (List.getElem?_eq_some_iff.1 hq).1
  obtain ⟨x, a, b⟩ := h.2 i q (by rw [List.getElem?_append_left hi]; exact hq)
  exact ⟨x, by rw [List.getElem?_take, if_pos hi]; exact a, b⟩
theorem PartsC.four {H : Heap} {l : List (Nat × ValD)} {ps : List (List Value)} (h : PartsC H l ps) : ∀ x ∈ ps, x.length = 4 := by
  intro x hx
  obtain ⟨i, hi, rfl⟩ := List.mem_iff_getElem.1 hx
  obtain ⟨y, a, s, e, _⟩ := h.2 i _ (List.getElem?_eq_getElem (by rw [← h.1]; exact hi))
  rw [List.getElem?_eq_getElem hi] at a
  cases a
  rw [e]; rfl
theorem PartC.all {H : Heap} {p : Nat × ValD} {x : List Value} (h : PartC H p x) : x.all oneC = true := by
  obtain ⟨s, rfl, hv⟩ := h
  obtain ⟨s', e, _, o, _⟩ := hv.one
  simp only [List.cons.injEq, true_and, and_true] at e
  subst e
  simp [o]
end Go.Proofs.Ytgopamojnoefiaa

namespace Go.Proofs.Ytgopamojnoefiaa
open Go Go.Abs
set_option maxRecDepth 100000
set_option linter.unusedSimpArgs false
set_option linter.unusedVariables false

/-! ### parts (50), region by region -/
def pPa : List Nat := [1, 1, 0, 0, 0]
theorem pa_exit {call : CallF} {lf : Nat} {env : Env} {ds : List ADef} {H : Heap} {b4 : Nat} {tv : Value} (e4 : env.val 4 = .pointer (some ⟨b4, 0, none⟩)) (g4 : H.get b4 = some (.cells true 1 [tv])) (ht : rdS H 4 tv = some []) :
    ∃ env', evCode Try.prog call lf 56 none (cAt Try.f50 pPa) env ds H = some (.exit 0, env', ds, H) ∧ env'.val 2 = env.val 2 := by
  have ot := rdS_one ht
  have ld : loadA Try.prog 66 H b4 0 = some tv := by simp [loadA, g4, ot]
  have hl := len_of (H' := H) (P := Try.prog) (t := 66) ht Try.underlying66
  simp only [List.length_nil] at hl
  generalize hr : evCode Try.prog call lf 56 none (cAt Try.f50 pPa) env ds H = out
  simp [pPa, Try.f50, e4, ld, hl] at hr
  subst hr
  exact ⟨_, rfl, by simp⟩
theorem pa_head {call : CallF} {lf : Nat} {env : Env} {ds : List ADef} {H : Heap} {b4 : Nat} {tv : Value} {ts : List (List Value)} (e4 : env.val 4 = .pointer (some ⟨b4, 0, none⟩)) (g4 : H.get b4 = some (.cells true 1 [tv])) (ht : rdS H 4 tv = some ts) (hn : 0 < ts.length) :
    ∃ env', evCode Try.prog call lf 56 none (cAt Try.f50 (pPa ++ [0])) env ds H = some (.normal, env', ds, H) ∧ env'.val 2 = env.val 2 ∧ env'.val 4 = env.val 4 := by
  have ot := rdS_one ht
  have ld : loadA Try.prog 66 H b4 0 = some tv := by simp [loadA, g4, ot]
  have hl := len_of (H' := H) (P := Try.prog) (t := 66) ht Try.underlying66
  have c1 : (0 : Int) < (ts.length : Int) := by omega
  generalize hr : evCode Try.prog call lf 56 none (cAt Try.f50 (pPa ++ [0])) env ds H = out
  simp [pPa, Try.f50, e4, ld, hl, c1, hn] at hr
  subst hr
  exact ⟨_, rfl, by simp, by simp [e4]⟩
theorem pa_R3 {call : CallF} {lf : Nat} {env : Env} {ds : List ADef} {H : Heap} {w : Value} {os : List (List Value)} (e2 : env.val 2 = w) (ho : rdS H 4 w = some os) :
    (os.length = 256 → ∃ env', evCode Try.prog call lf 56 none (cAt Try.f50 (pPa ++ [1, 0, 0])) env ds H = some (.ret, env', ds, H) ∧ env'.val 2 = w ∧ env'.val 3 = .bool false) ∧
    (os.length ≠ 256 → ∃ env', evCode Try.prog call lf 56 none (cAt Try.f50 (pPa ++ [1, 0, 0])) env ds H = some (.normal, env', ds, H) ∧ env'.val 2 = env.val 2 ∧ env'.val 4 = env.val 4) := by
  have hl := len_of (H' := H) (P := Try.prog) (t := 66) ho Try.underlying66
  constructor
  · intro h
    have c1 : ((os.length : Int) == 256) = true := by simp; omega
    generalize hr : evCode Try.prog call lf 56 none (cAt Try.f50 (pPa ++ [1, 0, 0])) env ds H = out
    simp [pPa, Try.f50, e2, hl, c1, -beq_iff_eq] at hr
    subst hr
    exact ⟨_, rfl, by simp, by simp⟩
  · intro h
    have c1 : ((os.length : Int) == 256) = false := by simp; omega
    generalize hr : evCode Try.prog call lf 56 none (cAt Try.f50 (pPa ++ [1, 0, 0])) env ds H = out
    simp [pPa, Try.f50, e2, hl, c1, -beq_eq_false_iff_ne] at hr
    subst hr
    exact ⟨_, rfl, by simp [e2], by simp⟩
theorem pa_R5 {call : CallF} {lf : Nat} {env : Env} {ds : List ADef} {H : Heap} {b4 m : Nat} {tv s : Value} {ts : List (List Value)} {k n dp : Int} (e4 : env.val 4 = .pointer (some ⟨b4, 0, none⟩)) (g4 : H.get b4 = some (.cells true 1 [tv])) (ht : rdS H 4 tv = some ts) (hm : ts.length = m + 1) (hmb : m < 1073741824) (hx : ts[m]? = some [.int .i64 k, .int .i64 n, s, .int .i64 dp]) (os : oneC s = true) :
    ∃ env', evCode Try.prog call lf 56 none (cAt Try.f50 (pPa ++ [1, 0, 1, 0])) env ds H = some (.normal, env', ds, partIn H k n s dp) ∧ env'.val 2 = env.val 2 ∧ env'.val 4 = env.val 4 ∧ env'.val 5 = .pointer (some ⟨H.next, 0, none⟩) := by
  have ot := rdS_one ht
  have ld : loadA Try.prog 66 H b4 0 = some tv := by simp [loadA, g4, ot]
  have hl := len_of (H' := H) (P := Try.prog) (t := 66) ht Try.underlying66
  rw [hm] at hl
  have w1 : IntKind.i64.wrap (m : Int) = (m : Int) := wrapI (by omega) (by omega)
  have ix := rdS_index ht Try.underlying66 info75 (by simp) (n := (m : Int)) (by omega) (by omega)
  simp only [Int.toNat_natCast] at ix
  have lx := rdS_loadA ht hx (t := 75) info75 (by simp) Try.underlying75 rfl
  have st := store75 (H := H) (k := k) (n := n) (dp := dp) os
  generalize hr : evCode Try.prog call lf 56 none (cAt Try.f50 (pPa ++ [1, 0, 1, 0])) env ds H = out
  simp [pPa, Try.f50, e4, ld, hl, w1, ix, lx, st] at hr
  subst hr
  exact ⟨_, rfl, by simp, by simp [e4], by simp⟩
theorem pa_R6 {call : CallF} {lf : Nat} {env : Env} {ds : List ADef} {H : Heap} {b4 m : Nat} {tv tv' : Value} {ts : List (List Value)} (e4 : env.val 4 = .pointer (some ⟨b4, 0, none⟩)) (g4 : H.get b4 = some (.cells true 1 [tv])) (ht : rdS H 4 tv = some ts) (hm : ts.length = m + 1) (hmb : m < 1073741824)
    (sl : sliceA Try.prog 66 tv none (some (m : Int)) none H = some tv') (ot' : tv'.cells = #[tv'] ∧ oneC tv' = true) :
    ∃ env', evCode Try.prog call lf 56 none (cAt Try.f50 (pPa ++ [1, 0, 1, 1, 0])) env ds H = some (.normal, env', ds, H.set b4 (.cells true 1 [tv'])) ∧ env'.val 2 = env.val 2 ∧ env'.val 4 = env.val 4 ∧ env'.val 5 = env.val 5 := by
  have ot := rdS_one ht
  have ld : loadA Try.prog 66 H b4 0 = some tv := by simp [loadA, g4, ot]
  have hl := len_of (H' := H) (P := Try.prog) (t := 66) ht Try.underlying66
  rw [hm] at hl
  have w1 : IntKind.i64.wrap (m : Int) = (m : Int) := wrapI (by omega) (by omega)
  have st : storeA Try.prog 66 H b4 0 tv' = some (H.set b4 (.cells true 1 [tv'])) := by simp [storeA, g4, ot', putL]
  generalize hr : evCode Try.prog call lf 56 none (cAt Try.f50 (pPa ++ [1, 0, 1, 1, 0])) env ds H = out
  simp [pPa, Try.f50, e4, ld, hl, w1, sl, st] at hr
  subst hr
  exact ⟨_, rfl, by simp, by simp [e4], by simp⟩
theorem build66 {H : Heap} {k n dp : Int} {s : Value} : buildSliceA Try.prog 66 1 [(0, .agg #[.int .i64 k, .int .i64 n, s, .int .i64 dp])] H = some (.slice (some ⟨H.next, 0, none⟩) 1 1, H.push (.cells true 4 [.int .i64 k, .int .i64 n, s, .int .i64 dp])) := by kernel_rfl
theorem built75 {k n dp : Int} {s : Value} : Try.prog.built 75 [(0, .agg #[.int .i64 k, .int .i64 n, s]), (1, .int .i64 dp)] = some #[.int .i64 k, .int .i64 n, s, .int .i64 dp] := by kernel_rfl
theorem part_rd {H : Heap} {x : List Value} (hx : x.length = 4) : rdS (H.push (.cells true 4 x)) 4 (.slice (some ⟨H.next, 0, none⟩) 1 1) = some [x] := by
  simp only [rdS, get_push_self]
  rw [if_pos ⟨by decide, by omega⟩]
  simp [chunks, List.take_of_length_le (Nat.le_of_eq hx)]
/-- A part appended to a row of parts. -/
theorem app_part {lo : Nat} {H : Heap} {ps : List (List Value)} {v : Value} {k n dp : Int} {s : Value} (hw : H.Wf) (hv : rowG 4 lo H ps v) (os : oneC s = true) (hn : ps.length < 1073741823) (hlo : lo ≤ H.next) :
    ∃ v' H', builtinA Try.prog .append #[66, 66] [v, .slice (some ⟨H.next, 0, none⟩) 1 1] (H.push (.cells true 4 [.int .i64 k, .int .i64 n, s, .int .i64 dp])) = some (.val v', H') ∧ Kept H H' (blockOf v) ∧ rowG 4 lo H' (ps ++ [[.int .i64 k, .int .i64 n, s, .int .i64 dp]]) v' ∧ (blockOf v' = blockOf v ∨ ∃ b, blockOf v' = some b ∧ H.next ≤ b) := by
  have k1 := (Kept.refl hw none).push (.cells true 4 [.int .i64 k, .int .i64 n, s, .int .i64 dp])
  obtain ⟨v', H', ap, k2, r, hb⟩ := (hv.keep k1).app (P := Try.prog) (t := 66) elem66 zero75 (by simp) (by decide) (by omega) (by rfl) k1.wf (part_rd (x := [.int .i64 k, .int .i64 n, s, .int .i64 dp]) rfl) (by simp; omega) (by simp [os]) (by simp) (by simp; omega)
  refine ⟨v', H', ap, (k1.weak _).trans k2, r, ?_⟩
  rcases hb with hb | hb
  · exact .inr ⟨_, hb, by simp⟩
  · exact .inl hb
theorem pa_R7 {call : CallF} {lf : Nat} {env : Env} {ds : List ADef} {H H' : Heap} {b5 : Nat} {w w' s : Value} {k n dp : Int} (e2 : env.val 2 = w) (e5 : env.val 5 = .pointer (some ⟨b5, 0, none⟩)) (g5 : H.get b5 = some (.cells true 4 [.int .i64 k, .int .i64 n, s, .int .i64 dp]))
    (ap : builtinA Try.prog .append #[66, 66] [w, .slice (some ⟨H.next, 0, none⟩) 1 1] (H.push (.cells true 4 [.int .i64 k, .int .i64 n, s, .int .i64 dp])) = some (.val w', H')) :
    ∃ env', evCode Try.prog call lf 56 none (cAt Try.f50 (pPa ++ [1, 0, 1, 1, 1, 0])) env ds H = some (.normal, env', ds, H') ∧ env'.val 2 = w' ∧ env'.val 4 = env.val 4 ∧ env'.val 5 = env.val 5 := by
  have ld : loadA Try.prog 75 H b5 0 = some (.agg #[.int .i64 k, .int .i64 n, s, .int .i64 dp]) := by simp [loadA, g5]
  have bs := build66 (H := H) (k := k) (n := n) (dp := dp) (s := s)
  generalize hr : evCode Try.prog call lf 56 none (cAt Try.f50 (pPa ++ [1, 0, 1, 1, 1, 0])) env ds H = out
  simp [pPa, Try.f50, e2, e5, ld, bs, ap] at hr
  subst hr
  exact ⟨_, rfl, by simp, by simp, by simp [e5]⟩
theorem own_slice {H : Heap} {s : Value} {l : List ValD} (h : rdVals H s = some l) : ∃ v', sliceA Try.prog 23 s none (some ((min l.length 256 : Nat) : Int)) none H = some v' ∧ rdVals H v' = some (l.take 256) := by
  obtain ⟨xs, h1, h2, h3, hq⟩ := rdVals_inv h
  obtain ⟨v', g1, g2, g3⟩ := rdS_upto (P := Try.prog) (t := 23) h1 hq elem23 size25 (n := min l.length 256) (by omega)
  refine ⟨v', g1, rdVals_of (xs := xs.take (min l.length 256)) ⟨g2, by rw [List.length_take, List.length_take, h2]; omega, fun i x v hx hv => ?_, g3⟩⟩
  rw [List.getElem?_take] at hx hv
  split at hx
  · split at hv
    · exact h3 i x v hx hv
    · cases hv
  · cases hx
theorem pa_R8 {call : CallF} {lf : Nat} {env : Env} {ds : List ADef} {H : Heap} {b5 : Nat} {s v' : Value} {k n dp : Int} {l : List ValD} (e5 : env.val 5 = .pointer (some ⟨b5, 0, none⟩)) (g5 : H.get b5 = some (.cells true 4 [.int .i64 k, .int .i64 n, s, .int .i64 dp])) (hv : rdVals H s = some l)
    (sl : sliceA Try.prog 23 s none (some ((min l.length 256 : Nat) : Int)) none H = some v') :
    ∃ env', evCode Try.prog call lf 56 none (cAt Try.f50 (pPa ++ [1, 0, 1, 1, 1, 1, 0])) env ds H = some (.normal, env', ds, H) ∧ env'.val 2 = env.val 2 ∧ env'.val 4 = env.val 4 ∧ env'.val 5 = env.val 5 ∧ env'.val 6 = v' := by
  have ld : loadA Try.prog 23 H b5 2 = some s := by simp [loadA, g5]
  have hl := rdVals_len hv 23 Try.underlying23
  have hm : (if (256 : Int) < (l.length : Int) then (256 : Int) else (l.length : Int)) = ((min l.length 256 : Nat) : Int) := by split <;> omega
  have bmin : builtinA Try.prog .min #[3, 3] [.int .i64 (l.length : Int), .int .i64 256] H = some (.val (.int .i64 ((min l.length 256 : Nat) : Int)), H) := by rw [builtin_min2, hm]
  generalize min l.length 256 = m at *
  generalize hr : evCode Try.prog call lf 56 none (cAt Try.f50 (pPa ++ [1, 0, 1, 1, 1, 1, 0])) env ds H = out
  simp [pPa, Try.f50, e5, ld, hl, bmin, sl, -builtin_min2] at hr
  subst hr
  exact ⟨_, rfl, by simp, by simp, by simp [e5], by simp⟩
theorem pa_R9 {call : CallF} {lf : Nat} {env : Env} {ds : List ADef} {H H' : Heap} {own : Value} {b : Nat} (e6 : env.val 6 = own) (hc : call (.fn 74 [own]) H = some (.ret (.func (.func 94) #[] #[.pointer (some ⟨b, 0, none⟩)]), H')) :
    ∃ env', evCode Try.prog call lf 56 none (cAt Try.f50 (pPa ++ [1, 0, 1, 1, 1, 1, 1, 0])) env ds H = some (.normal, env', ds, H') ∧ env'.val 2 = env.val 2 ∧ env'.val 4 = env.val 4 ∧ env'.val 5 = env.val 5 ∧ env'.val 44 = .func (.func 94) #[] #[.pointer (some ⟨b, 0, none⟩)] := by
  generalize hr : evCode Try.prog call lf 56 none (cAt Try.f50 (pPa ++ [1, 0, 1, 1, 1, 1, 1, 0])) env ds H = out
  simp [pPa, Try.f50, e6, callA, hc] at hr
  subst hr
  exact ⟨_, rfl, by simp, by simp, by simp, by simp⟩

/-! a round of the range -/
theorem pa_assign {call : CallF} {lf l : Nat} {E : Env} {H : Heap} {i : Int} {v : ValD} {s : Value} (os : oneC s = true) :
    ∃ env', evCode Try.prog call lf 56 (some l) (cAt Try.f50 (pPa ++ [1, 0, 1, 1, 1, 1, 1, 1, 0, 0])) (bindA [45, 46] [.int .i64 i, .agg #[.int .i64 v.kind, .int .i64 v.num, s]] E) [] H = some (.normal, env', [], (H.push (.cells true 3 [.int .i64 0, .int .i64 0, .slice none 0 0])).set H.next (.cells true 3 [.int .i64 v.kind, .int .i64 v.num, s])) ∧ env'.val 4 = E.val 4 ∧ env'.val 5 = E.val 5 ∧ env'.val 8 = .pointer (some ⟨H.next, 0, none⟩) := by
  have st : storeA Try.prog 25 (H.push (.cells true 3 [.int .i64 0, .int .i64 0, .slice none 0 0])) H.next 0 (.agg #[.int .i64 v.kind, .int .i64 v.num, s]) = some ((H.push (.cells true 3 [.int .i64 0, .int .i64 0, .slice none 0 0])).set H.next (.cells true 3 [.int .i64 v.kind, .int .i64 v.num, s])) := by
    have hg := get_push_self H (.cells true 3 [.int .i64 0, .int .i64 0, .slice none 0 0])
    simp [storeA, hg, os, putL]
  generalize hr : evCode Try.prog call lf 56 (some l) (cAt Try.f50 (pPa ++ [1, 0, 1, 1, 1, 1, 1, 1, 0, 0])) (bindA [45, 46] [.int .i64 i, .agg #[.int .i64 v.kind, .int .i64 v.num, s]] E) [] H = out
  simp [pPa, Try.f50, bindA, st] at hr
  subst hr
  exact ⟨_, rfl, by simp, by simp, by simp⟩
theorem pa_body {call : CallF} {lf l : Nat} {env : Env} {H H' : Heap} {b4 b5 b8 : Nat} {tv tv' s s5 : Value} {k n k5 n5 dp : Int} (e4 : env.val 4 = .pointer (some ⟨b4, 0, none⟩)) (e5 : env.val 5 = .pointer (some ⟨b5, 0, none⟩)) (e8 : env.val 8 = .pointer (some ⟨b8, 0, none⟩))
    (g4 : H.get b4 = some (.cells true 1 [tv])) (ot : tv.cells = #[tv] ∧ oneC tv = true) (g5 : H.get b5 = some (.cells true 4 [.int .i64 k5, .int .i64 n5, s5, .int .i64 dp])) (g8 : H.get b8 = some (.cells true 3 [.int .i64 k, .int .i64 n, s])) (hdp : 0 ≤ dp ∧ dp < 1073741824)
    (ap : builtinA Try.prog .append #[66, 66] [tv, .slice (some ⟨H.next, 0, none⟩) 1 1] (H.push (.cells true 4 [.int .i64 k, .int .i64 n, s, .int .i64 (dp + 1)])) = some (.val tv', H')) (g4' : H'.get b4 = some (.cells true 1 [tv])) (ot' : tv'.cells = #[tv'] ∧ oneC tv' = true) :
    ∃ env', evCode Try.prog call lf 56 (some l) (cAt Try.f50 (pPa ++ [1, 0, 1, 1, 1, 1, 1, 1, 0, 1])) env [] H = some (.normal, env', [], H'.set b4 (.cells true 1 [tv'])) := by
  have l4 : loadA Try.prog 66 H b4 0 = some tv := by simp [loadA, g4, ot]
  have l5 : loadA Try.prog 3 H b5 3 = some (.int .i64 dp) := by simp [loadA, g5]
  have l8 : loadA Try.prog 25 H b8 0 = some (.agg #[.int .i64 k, .int .i64 n, s]) := by simp [loadA, g8]
  have w1 : IntKind.i64.wrap (dp + 1) = dp + 1 := wrapI (by omega) (by omega)
  have bs := build66 (H := H) (k := k) (n := n) (dp := dp + 1) (s := s)
  have st : storeA Try.prog 66 H' b4 0 tv' = some (H'.set b4 (.cells true 1 [tv'])) := by simp [storeA, g4', ot', putL]
  generalize hr : evCode Try.prog call lf 56 (some l) (cAt Try.f50 (pPa ++ [1, 0, 1, 1, 1, 1, 1, 1, 0, 1])) env [] H = out
  simp [pPa, Try.f50, e4, e5, e8, l4, l5, l8, w1, built75, bs, ap, st] at hr
  subst hr
  exact ⟨_, rfl⟩
end Go.Proofs.Ytgopamojnoefiaa

namespace Go.Proofs.Ytgopamojnoefiaa
open Go Go.Abs
set_option maxRecDepth 100000
set_option linter.unusedSimpArgs false
set_option linter.unusedVariables false

/-! ### parts: the range over one's own -/
noncomputable def loopP (E : Env) (st : LoopState) : AObj := .loop { env := E, params := #[45, 46], assign := cAt Try.f50 (pPa ++ [1, 0, 1, 1, 1, 1, 1, 1, 0, 0]), body := cAt Try.f50 (pPa ++ [1, 0, 1, 1, 1, 1, 1, 1, 0, 1]), state := st, pending := none, nt := 56, nf := Try.prog.funcs.size }

structure RP (Hs Hb : Heap) (E : Env) (b4 lp lo : Nat) (S : List Nat) (T : List (Nat × ValD)) (H : Heap) : Prop where
  ks : Kept Hs H none
  kb : KeepB Hb H S
  gl : H.get lp = some (loopP E .ready)
  td : ∃ tv ts, H.get b4 = some (.cells true 1 [tv]) ∧ rowG 4 lo H ts tv ∧ PartsC Hs T ts ∧ (∀ b, blockOf tv = some b → (b ∈ S ∨ Hb.next ≤ b) ∧ b ≠ b4 ∧ b ≠ lp)

theorem pa_round {call : CallF} {lf : Nat} {Hs Hb H : Heap} {E : Env} {b4 b5 lp lo dp : Nat} {S : List Nat} {T : List (Nat × ValD)} {d : ValD} {s s5 : Value} {k5 n5 i : Int} (hwb : Hb.Wf) (R : RP Hs Hb E b4 lp lo S T H) (hT : T.length < 1073741823) (hlo : Hs.next ≤ lo) (h4 : lo ≤ b4) (h4l : b4 < lp) (hSl : lp ∈ S) (hS4 : b4 ∈ S)
    (g5 : Hb.get b5 = some (.cells true 4 [.int .i64 k5, .int .i64 n5, s5, .int .i64 (dp : Int)])) (h5 : b5 ∉ S) (hdp : dp < 1073741823) (hv : VAt Hs d [.int .i64 d.kind, .int .i64 d.num, s]) (os : oneC s = true)
    (e4 : E.val 4 = .pointer (some ⟨b4, 0, none⟩)) (e5 : E.val 5 = .pointer (some ⟨b5, 0, none⟩)) :
    ∃ H', evRound Try.prog call lf lp [.int .i64 i, .agg #[.int .i64 d.kind, .int .i64 d.num, s]] H = some (.ret (.bool true), H') ∧ RP Hs Hb E b4 lp lo S (T ++ [(dp + 1, d)]) H' := by
  obtain ⟨tv, ts, g4, hr, hp, hb⟩ := R.td
  have hl := R.ks.wf.lt R.gl
  have hl4 := R.ks.wf.lt g4
  have ot := hr.one
  obtain ⟨env1, r1, u4, u5, u8⟩ := pa_assign (call := call) (lf := lf) (l := lp) (E := E) (H := H) (i := i) (v := d) os
  have k1 : Kept H ((H.push (.cells true 3 [.int .i64 0, .int .i64 0, .slice none 0 0])).set H.next (.cells true 3 [.int .i64 d.kind, .int .i64 d.num, s])) none := ((Kept.refl R.ks.wf none).push _).set (Nat.le_refl _) (by simp) _
  have g8 : ((H.push (.cells true 3 [.int .i64 0, .int .i64 0, .slice none 0 0])).set H.next (.cells true 3 [.int .i64 d.kind, .int .i64 d.num, s])).get H.next = some (.cells true 3 [.int .i64 d.kind, .int .i64 d.num, s]) := get_set_self _ _ _
  have n1 : ((H.push (.cells true 3 [.int .i64 0, .int .i64 0, .slice none 0 0])).set H.next (.cells true 3 [.int .i64 d.kind, .int .i64 d.num, s])).next = H.next + 1 := rfl
  generalize hH1 : (H.push (.cells true 3 [.int .i64 0, .int .i64 0, .slice none 0 0])).set H.next (.cells true 3 [.int .i64 d.kind, .int .i64 d.num, s]) = H1 at *
  have gl1 := k1.of_get R.ks.wf R.gl (by simp)
  have hl1 := k1.wf.lt gl1
  have w2 := k1.wf.set hl1 (loopP E .busy)
  have hr2 : rowG 4 lo (H1.set lp (loopP E .busy)) ts tv := (hr.keep k1).set (fun e => (hb lp e).2.2 rfl) _
  have kb1 : KeepB Hb H1 S := R.kb.kept k1 (fun b e => by cases e)
  have kb2 : KeepB Hb (H1.set lp (loopP E .busy)) S := kb1.set (.inl hSl) hl1 _
  have ks2 : Kept Hs (H1.set lp (loopP E .busy)) none := (R.ks.trans k1).set (by omega) hl1 _
  have htl : ts.length < 1073741823 := by rw [hp.1]; exact hT
  have hle2 : lo ≤ (H1.set lp (loopP E .busy)).next := by simp only [Heap.next_set]; omega
  obtain ⟨tv', H3, ap, k3, hr3, hbb⟩ := app_part (k := d.kind) (n := d.num) (dp := ((dp + 1 : Nat) : Int)) (s := s) w2 hr2 os htl hle2
  have hn2 : (H1.set lp (loopP E .busy)).next = H.next + 1 := by simp only [Heap.next_set]; exact n1
  have g42 : (H1.set lp (loopP E .busy)).get b4 = some (.cells true 1 [tv]) := by rw [get_set_ne (by omega)]; exact k1.of_get R.ks.wf g4 (by simp)
  have gl2 : (H1.set lp (loopP E .busy)).get lp = some (loopP E .busy) := get_set_self _ _ _
  have ne4 : some b4 ≠ blockOf tv := fun e => (hb b4 e.symm).2.1 rfl
  have nel : some lp ≠ blockOf tv := fun e => (hb lp e.symm).2.2 rfl
  have g43 := k3.of_get w2 g42 ne4
  have gl3 := k3.of_get w2 gl2 nel
  have ot3 := hr3.one
  have hb3 : ∀ b, blockOf tv' = some b → (b ∈ S ∨ Hb.next ≤ b) ∧ b ≠ b4 ∧ b ≠ lp := by
    intro b e
    rcases hbb with e' | ⟨b', e', hge⟩
    · exact hb b (e'.symm.trans e)
    · rw [e'] at e
      cases e
      have := R.kb.le
      exact ⟨.inr (by omega), by omega, by omega⟩
  have g52 : (H1.set lp (loopP E .busy)).get b5 = some (.cells true 4 [.int .i64 k5, .int .i64 n5, s5, .int .i64 (dp : Int)]) := kb2.of_get hwb g5 h5
  have g82 : (H1.set lp (loopP E .busy)).get H.next = some (.cells true 3 [.int .i64 d.kind, .int .i64 d.num, s]) := by rw [get_set_ne (by omega)]; exact g8
  obtain ⟨env2, r2⟩ := pa_body (call := call) (lf := lf) (l := lp) (env := env1) (H := H1.set lp (loopP E .busy)) (H' := H3) (tv := tv) (tv' := tv') (u4.trans e4) (u5.trans e5) u8 g42 ⟨ot.1, ot.2.1⟩ g52 g82 (by omega) (by rw [show ((dp : Int) + 1) = ((dp + 1 : Nat) : Int) by omega]; exact ap) g43 ⟨ot3.1, ot3.2.1⟩
  have hl3 := k3.wf.lt gl3
  have hl43 := k3.wf.lt g43
  have kb3 : KeepB Hb H3 S := kb2.kept k3 (fun b e => (hb b e).1)
  have ks3 : Kept Hs H3 none := ks2.drop k3 (fun b e => by have := (hr2.blk b e).1; omega)
  refine ⟨(H3.set b4 (.cells true 1 [tv'])).set lp (loopP E .ready), ?_, (ks3.set (by omega) hl43 _).set (by omega) (by simpa using hl3) _, (kb3.set (.inl hS4) hl43 _).set (.inl hSl) (by simpa using hl3) _, get_set_self _ _ _, tv', _, ?_, (hr3.set (fun e => (hb3 b4 e).2.1 rfl) _).set (fun e => (hb3 lp e).2.2 rfl) _, hp.add ⟨s, rfl, hv⟩, hb3⟩
  · unfold evRound
    rw [show H.get lp = some (.loop { env := E, params := #[45, 46], assign := cAt Try.f50 (pPa ++ [1, 0, 1, 1, 1, 1, 1, 1, 0, 0]), body := cAt Try.f50 (pPa ++ [1, 0, 1, 1, 1, 1, 1, 1, 0, 1]), state := .ready, pending := none, nt := 56, nf := Try.prog.funcs.size }) from R.gl]
    simp only [isReady]
    rw [if_pos ⟨trivial, by rfl, trivial⟩]
    rw [show evCode Try.prog call lf 56 (some lp) (cAt Try.f50 (pPa ++ [1, 0, 1, 1, 1, 1, 1, 1, 0, 0])) (bindA [45, 46] [.int .i64 i, .agg #[.int .i64 d.kind, .int .i64 d.num, s]] E) [] H = _ from r1]
    simp only
    rw [show H1.get lp = some (.loop { env := E, params := #[45, 46], assign := cAt Try.f50 (pPa ++ [1, 0, 1, 1, 1, 1, 1, 1, 0, 0]), body := cAt Try.f50 (pPa ++ [1, 0, 1, 1, 1, 1, 1, 1, 0, 1]), state := .ready, pending := none, nt := 56, nf := Try.prog.funcs.size }) from gl1]
    simp only [if_true]
    rw [show evCode Try.prog call lf 56 (some lp) (cAt Try.f50 (pPa ++ [1, 0, 1, 1, 1, 1, 1, 1, 0, 1])) env1 [] (H1.set lp (.loop { env := E, params := #[45, 46], assign := cAt Try.f50 (pPa ++ [1, 0, 1, 1, 1, 1, 1, 1, 0, 0]), body := cAt Try.f50 (pPa ++ [1, 0, 1, 1, 1, 1, 1, 1, 0, 1]), state := .busy, pending := none, nt := 56, nf := Try.prog.funcs.size })) = _ from r2]
    simp only [roundEnd]
    rw [show (H3.set b4 (.cells true 1 [tv'])).get lp = some (.loop { env := E, params := #[45, 46], assign := cAt Try.f50 (pPa ++ [1, 0, 1, 1, 1, 1, 1, 1, 0, 0]), body := cAt Try.f50 (pPa ++ [1, 0, 1, 1, 1, 1, 1, 1, 0, 1]), state := .busy, pending := none, nt := 56, nf := Try.prog.funcs.size }) from by rw [get_set_ne (by omega)]; exact gl3]
    rfl
  · rw [get_set_ne (by omega), get_set_self]

/-- The range as a whole. -/
theorem pa_range {call c5 c0 : CallF} {lf : Nat} {Hs H : Heap} {E : Env} {ds : List ADef} {b4 b5 bo lo dp : Nat} {tv own s5 : Value} {k5 n5 : Int} {ts : List (List Value)} {T : List (Nat × ValD)} {L : List ValD} (hws : Hs.Wf) (hwb : H.Wf) (ks : Kept Hs H none) (hlo : Hs.next ≤ lo) (h4 : lo ≤ b4) (g4 : H.get b4 = some (.cells true 1 [tv])) (hr : rowG 4 lo H ts tv) (hp : PartsC Hs T ts) (hb : ∀ b, blockOf tv = some b → b ≠ b4)
    (g5 : H.get b5 = some (.cells true 4 [.int .i64 k5, .int .i64 n5, s5, .int .i64 (dp : Int)])) (h5 : b5 ≠ b4 ∧ blockOf tv ≠ some b5) (go : H.get bo = some (.cells true 1 [own])) (ho : bo ≠ b4 ∧ blockOf tv ≠ some bo) (hv : rdVals Hs own = some L) (hL : L.length ≤ 256) (hlf : 256 < lf) (hT : T.length + 256 < 1073741823) (hdp : dp < 1073741823)
    (hcall : ∀ args H, call (.fn 94 args) H = evFn Try.prog c5 lf 94 args H) (hround : ∀ l args H, c5 (.round l args) H = evRound Try.prog c0 lf l args H)
    (e4 : E.val 4 = .pointer (some ⟨b4, 0, none⟩)) (e5 : E.val 5 = .pointer (some ⟨b5, 0, none⟩)) (em : E.val 44 = .func (.func 94) #[] #[.pointer (some ⟨bo, 0, none⟩)]) :
    ∃ H' tv' ts', evCode Try.prog call lf 56 none (cAt Try.f50 (pPa ++ [1, 0, 1, 1, 1, 1, 1, 1])) E ds H = some (.normal, E, .mark H.next :: ds, H') ∧ Kept Hs H' none ∧ KeepB H H' (b4 :: (blockOf tv).toList) ∧ H'.get b4 = some (.cells true 1 [tv']) ∧ rowG 4 lo H' ts' tv' ∧ PartsC Hs (T ++ (L.reverse.map fun v => (dp + 1, v))) ts' ∧ (∀ b, blockOf tv' = some b → b ≠ b4 ∧ (blockOf tv = some b ∨ H.next + 1 < b)) ∧ H'.get H.next = some .defs := by
  have hl4 := hwb.lt g4
  have hw5 : ((H.push .defs).push (loopP E .ready)).Wf := (hwb.push _).push _
  have gl : ((H.push .defs).push (loopP E .ready)).get (H.next + 1) = some (loopP E .ready) := get_push_self (H.push .defs) _
  have gd : ((H.push .defs).push (loopP E .ready)).get H.next = some .defs := by rw [get_push_ne (by simp)]; exact get_push_self _ _
  have kk := ((Kept.refl hwb none).push .defs).push (loopP E .ready)
  have hnx : ((H.push .defs).push (loopP E .ready)).next = H.next + 2 := rfl
  have hS : ∀ b, b < H.next → b ≠ b4 → blockOf tv ≠ some b → b ∉ b4 :: (H.next + 1) :: (blockOf tv).toList := by
    intro b h1 h2 h3 hm
    rcases List.mem_cons.1 hm with h | hm
    · exact h2 h
    rcases List.mem_cons.1 hm with h | hm
    · omega
    · rw [Option.mem_toList] at hm; exact h3 hm
  generalize hHb : (H.push .defs).push (loopP E .ready) = Hb at *
  have R0 : RP Hs Hb E b4 (H.next + 1) lo (b4 :: (H.next + 1) :: (blockOf tv).toList) T Hb := by
    refine ⟨ks.trans kk, KeepB.refl hw5 _, gl, tv, ts, kk.of_get hwb g4 (by simp), hr.keep kk, hp, fun b e => ⟨.inl (by simp [e]), hb b e, ?_⟩⟩
    have := (hr.blk b e).2
    omega
  have g5b := kk.of_get hwb g5 (by simp)
  have gob := kk.of_get hwb go (by simp)
  have G : GoB Hs c5 own L bo (H.next + 1) (fun j K => RP Hs Hb E b4 (H.next + 1) lo (b4 :: (H.next + 1) :: (blockOf tv).toList) (T ++ ((L.drop j).reverse.map fun v => (dp + 1, v))) K) := by
    refine ⟨fun j K hI => hI.kb.of_get hw5 gob (hS bo (hwb.lt go) ho.1 ho.2), hv, fun j K hI => fun b ob hbb => ?_, fun j K hI => ⟨_, hI.gl, rfl⟩, ?_⟩
    · exact hI.ks.of_get hws hbb (by simp)
    · intro j K d s hI hd hvd os
      have hdr : (L.drop j).reverse = (L.drop (j + 1)).reverse ++ [d] := by
        have hj := (List.getElem?_eq_some_iff.1 hd).1
        rw [List.drop_eq_getElem_cons hj, List.reverse_cons]
        congr 2
        exact (List.getElem?_eq_some_iff.1 hd).2
      obtain ⟨H', r, hR⟩ := pa_round (call := c0) (lf := lf) (i := (j : Int)) hw5 hI (by simp; omega) hlo h4 (by omega) (by simp) (by simp) g5b (hS b5 (hwb.lt g5) h5.1 h5.2) hdp hvd os e4 e5
      refine ⟨H', (hround _ _ _).trans r, ?_⟩
      rw [hdr, List.map_append, ← List.append_assoc]
      exact hR
  obtain ⟨H6, r, hI6⟩ := bk_run (lf := lf) G (by omega) (by omega) (by rw [List.drop_eq_nil_of_le (Nat.le_refl _)]; simpa using R0)
  simp only [List.drop_zero] at hI6
  obtain ⟨tv', ts', q4, qr, qp, qb⟩ := hI6.td
  have hl6 := hI6.ks.wf.lt hI6.gl
  have hS2 : ∀ b, b < H.next → b ∉ b4 :: (blockOf tv).toList → b ∉ b4 :: (H.next + 1) :: (blockOf tv).toList := by
    intro b h1 h2 hm
    rcases List.mem_cons.1 hm with h | hm
    · exact h2 (by simp [h])
    rcases List.mem_cons.1 hm with h | hm
    · omega
    · exact h2 (List.mem_cons_of_mem _ hm)
  have hnd : H.next ∉ b4 :: (H.next + 1) :: (blockOf tv).toList := by
    intro hm
    rcases List.mem_cons.1 hm with h | hm
    · omega
    rcases List.mem_cons.1 hm with h | hm
    · omega
    · rw [Option.mem_toList] at hm
      have := (hr.blk _ hm).2
      omega
  refine ⟨H6.set (H.next + 1) (loopP E .exhausted), tv', ts', ?_, hI6.ks.set (by have := ks.le; omega) hl6 _, ⟨hI6.ks.wf.set hl6 _, by have := hI6.kb.le; simp only [Heap.next_set]; omega, fun b h1 h2 => ?_⟩, by rw [get_set_ne (by omega)]; exact q4, qr.set (fun e => (qb _ e).2.2 rfl) _, qp, fun b e => ?_, ?_⟩
  · rw [show cAt Try.f50 (pPa ++ [1, 0, 1, 1, 1, 1, 1, 1]) = .block 2 (.rangeFunc (.tmp 44) #[45, 46] (cAt Try.f50 (pPa ++ [1, 0, 1, 1, 1, 1, 1, 1, 0, 0])) (cAt Try.f50 (pPa ++ [1, 0, 1, 1, 1, 1, 1, 1, 0, 1]))) from rfl, evCode_block,
      evCode_range (g := 94) (first := #[]) (captured := #[.pointer (some ⟨bo, 0, none⟩)]) (by simp only [evA, em]) (by kernel_rfl), hcall]
    rw [show evFn Try.prog c5 lf 94 ((#[] : Array Value).toList ++ [.func (.yield (H.next + 1)) #[] #[]] ++ (#[.pointer (some ⟨bo, 0, none⟩)] : Array Value).toList) ((H.push .defs).push (theLoop Try.prog 56 E #[45, 46] (cAt Try.f50 (pPa ++ [1, 0, 1, 1, 1, 1, 1, 1, 0, 0])) (cAt Try.f50 (pPa ++ [1, 0, 1, 1, 1, 1, 1, 1, 0, 1])))) = some (.ret (.tuple #[]), H6) from by rw [← hHb] at r; exact r]
    have hre : rangeEnd (H.next + 1) E (.mark H.next :: ds) (some (CRes.ret (.tuple #[]), H6)) = some (.normal, E, .mark H.next :: ds, H6.set (H.next + 1) (loopP E .exhausted)) := by
      simp only [rangeEnd]
      rw [show H6.get (H.next + 1) = some (loopP E .ready) from hI6.gl]
      rfl
    rw [hre]
  · rw [get_set_ne (by omega), hI6.kb.get b (by omega) (hS2 b h1 h2), ← hHb, get_push_ne (by simp; omega), get_push_ne (by omega)]
  · obtain ⟨a1, a2, a3⟩ := qb b e
    refine ⟨a2, ?_⟩
    rcases a1 with a1 | a1
    · rcases List.mem_cons.1 a1 with h | hm
      · exact absurd h a2
      rcases List.mem_cons.1 hm with h | hm
      · exact absurd h a3
      · rw [Option.mem_toList] at hm; exact .inl hm
    · exact .inr (by omega)
  · rw [get_set_ne (by omega)]; exact hI6.kb.of_get hw5 gd hnd
end Go.Proofs.Ytgopamojnoefiaa

namespace Go.Proofs.Ytgopamojnoefiaa
open Go Go.Abs
set_option maxRecDepth 100000
set_option linter.unusedSimpArgs false
set_option linter.unusedVariables false

/-- Marks are left behind. -/
theorem leave_marks {call : CallF} {lf : Nat} {fn : Func} {env : Env} {pm : PM} {K : Heap} : ∀ (ms : List Nat) (H : Heap), Kept K H none → (∀ m ∈ ms, H.get m = some .defs ∧ K.next ≤ m) → ms.Nodup →
    ∃ H', evLeave Try.prog call lf fn env (ms.map ADef.mark) pm H = evLeave Try.prog call lf fn env [] pm H' ∧ Kept K H' none ∧ ∀ b, b ∉ ms → H'.get b = H.get b
  | [], H, hk, _, _ => ⟨H, rfl, hk, fun _ _ => rfl⟩
  | m :: ms, H, hk, h, hn => by
    obtain ⟨g, hge⟩ := h m (by simp)
    have hnd := List.nodup_cons.1 hn
    obtain ⟨H', e, k', hb⟩ := leave_marks ms (H.set m .dead) (hk.set hge (hk.wf.lt g) _) (fun x hx => by
      obtain ⟨a, b⟩ := h x (by simp [hx])
      exact ⟨by rw [get_set_ne (fun e => by subst e; exact hnd.1 hx)]; exact a, b⟩) hnd.2
    refine ⟨H', ?_, k', fun b hbm => ?_⟩
    · rw [List.map_cons, ← e]
      show (match H.get m with | some .defs => evLeave Try.prog call lf fn env (ms.map ADef.mark) pm (H.set m .dead) | _ => none) = _
      rw [g]
    · rw [hb b (fun hm => hbm (by simp [hm])), get_set_ne (fun e => hbm (by simp [e]))]

theorem rowG.keepB {es lo : Nat} {H K : Heap} {S : List Nat} {xs : List (List Value)} {v : Value} (h : rowG es lo H xs v) (k : KeepB H K S) (hx : ∀ b, blockOf v = some b → b ∉ S) : rowG es lo K xs v := by
  rcases h with h | ⟨b, c, cs, h1, h2, h3, h4, h5, h6, h7⟩
  · exact .inl h
  · exact .inr ⟨b, c, cs, h1, by rw [k.get b h6 (hx b (by rw [h1]; rfl))]; exact h2, h3, h4, h5, Nat.lt_of_lt_of_le h6 k.le, h7⟩

/-- What holds between two rounds of parts. -/
structure PI (Hs : Heap) (lo b4 : Nat) (O T : List (Nat × ValD)) (w : Value) (ms : List Nat) (H : Heap) : Prop where
  ks : Kept Hs H none
  out : ∃ os, rowG 4 lo H os w ∧ PartsC Hs O os
  td : ∃ tv ts, H.get b4 = some (.cells true 1 [tv]) ∧ rowG 4 lo H ts tv ∧ PartsC Hs T ts ∧ ∀ b, blockOf tv = some b → b ≠ b4 ∧ blockOf w ≠ some b ∧ b ∉ ms
  wb : ∀ b, blockOf w = some b → b ≠ b4 ∧ b ∉ ms
  mks : ∀ m ∈ ms, H.get m = some .defs ∧ m ≠ b4 ∧ Hs.next ≤ m
  nd : ms.Nodup
  dpt : ∀ p ∈ T, p.1 ≤ O.length
  tl : T.length ≤ 1 + 256 * O.length

theorem pa_iter {call c5 c0 : CallF} {lf : Nat} {Hs H : Heap} {env : Env} {lo b4 : Nat} {O T : List (Nat × ValD)} {x : Nat × ValD} {w : Value} {ms : List Nat} (hws : Hs.Wf) (hlo : Hs.next ≤ lo) (h4 : lo ≤ b4) (I : PI Hs lo b4 O (T ++ [x]) w ms H) (hO : O.length < 256) (hlf : 256 < lf)
    (h74 : ∀ s K, s.cells = #[s] ∧ oneC s = true → call (.fn 74 [s]) K = some (.ret (.func (.func 94) #[] #[.pointer (some ⟨K.next, 0, none⟩)]), K.push (.cells true 1 [s]))) (hcall : ∀ args H, call (.fn 94 args) H = evFn Try.prog c5 lf 94 args H) (hround : ∀ l args H, c5 (.round l args) H = evRound Try.prog c0 lf l args H)
    (e2 : env.val 2 = w) (e4 : env.val 4 = .pointer (some ⟨b4, 0, none⟩)) :
    ∃ env' H' w' m, evCode Try.prog call lf 56 none (cAt Try.f50 pPa) env (ms.map ADef.mark) H = some (.normal, env', (m :: ms).map ADef.mark, H') ∧ env'.val 2 = w' ∧ env'.val 4 = .pointer (some ⟨b4, 0, none⟩) ∧ PI Hs lo b4 (O ++ [x]) (T ++ ((x.2.own.take 256).reverse.map fun v => (x.1 + 1, v))) w' (m :: ms) H' := by
  obtain ⟨tv, ts, g4, hr, hp, hb⟩ := I.td
  obtain ⟨os, ho, hpo⟩ := I.out
  have hl4 := I.ks.wf.lt g4
  have hxs := I.ks.ext hws
  have htl := hp.1
  simp only [List.length_append, List.length_cons, List.length_nil] at htl
  have hTl := I.tl
  simp only [List.length_append, List.length_cons, List.length_nil] at hTl
  have hdx := I.dpt x (by simp)
  obtain ⟨hpc, y, hy, s, rfl, hvx⟩ := hp.cut
  obtain ⟨s', e', oc, os', oe, _⟩ := hvx.one
  simp only [List.cons.injEq, true_and, and_true] at e'
  subst e'
  obtain ⟨a1, r1, u12, u14⟩ := pa_head (call := call) (lf := lf) (ds := ms.map ADef.mark) e4 g4 hr.rd (by omega)
  obtain ⟨a2, r2, u22, u24⟩ := (pa_R3 (call := call) (lf := lf) (env := a1) (ds := ms.map ADef.mark) (u12.trans e2) ho.rd).2 (by rw [hpo.1]; omega)
  obtain ⟨a3, r3, u32, u34, u35⟩ := pa_R5 (call := call) (lf := lf) (env := a2) (ds := ms.map ADef.mark) (m := T.length) (u24.trans (u14.trans e4)) g4 hr.rd htl (by omega) hy os'
  have k5 := partIn_kept I.ks.wf x.2.kind x.2.num s (x.1 : Int)
  have g5 := partIn_self H x.2.kind x.2.num s (x.1 : Int)
  have n5 := partIn_next H x.2.kind x.2.num s (x.1 : Int)
  generalize partIn H x.2.kind x.2.num s (x.1 : Int) = H5 at *
  obtain ⟨tv', sl, hrc, hbc⟩ := (hr.keep k5).cut (P := Try.prog) (t := 66) elem66 (by simp) (n := T.length) (by omega)
  have otc := hrc.one
  have g45 := k5.of_get I.ks.wf g4 (by simp)
  obtain ⟨a4, r4, u42, u44, u45⟩ := pa_R6 (call := call) (lf := lf) (env := a3) (ds := ms.map ADef.mark) (m := T.length) (u34.trans (u24.trans (u14.trans e4))) g45 (hr.keep k5).rd htl (by omega) sl ⟨otc.1, otc.2.1⟩
  have hl45 := k5.wf.lt g45
  have w6 := k5.wf.set hl45 (.cells true 1 [tv'])
  have g46 : (H5.set b4 (.cells true 1 [tv'])).get b4 = some (.cells true 1 [tv']) := get_set_self _ _ _
  have nb5 : H.next ≠ b4 := by omega
  have g56 : (H5.set b4 (.cells true 1 [tv'])).get H.next = some (.cells true 4 [.int .i64 x.2.kind, .int .i64 x.2.num, s, .int .i64 (x.1 : Int)]) := by rw [get_set_ne nb5]; exact g5
  have hrc6 : rowG 4 lo (H5.set b4 (.cells true 1 [tv'])) (ts.take T.length) tv' := hrc.set (fun e => (hb b4 (hbc.symm.trans e)).1 rfl) _
  have ho6 : rowG 4 lo (H5.set b4 (.cells true 1 [tv'])) os w := (ho.keep k5).set (fun e => (I.wb b4 e).1 rfl) _
  have ks6 : Kept Hs (H5.set b4 (.cells true 1 [tv'])) none := (I.ks.trans k5).set (by omega) hl45 _
  have mk6 : ∀ m ∈ ms, (H5.set b4 (.cells true 1 [tv'])).get m = some .defs := fun m hm => by
    obtain ⟨q1, q2, _⟩ := I.mks m hm
    rw [get_set_ne q2]; exact k5.of_get I.ks.wf q1 (by simp)
  have n6 : (H5.set b4 (.cells true 1 [tv'])).next = H.next + 1 := by simp only [Heap.next_set]; exact n5
  generalize H5.set b4 (.cells true 1 [tv']) = H6 at *
  have hle6 : lo ≤ H6.next := by omega
  have hosl : os.length < 1073741823 := by rw [hpo.1]; omega
  obtain ⟨w', H7, ap, k7, hr7, hb7⟩ := app_part (k := x.2.kind) (n := x.2.num) (dp := (x.1 : Int)) (s := s) w6 ho6 os' hosl hle6
  obtain ⟨a5, r5, u52, u54, u55⟩ := pa_R7 (call := call) (lf := lf) (env := a4) (ds := ms.map ADef.mark) (u42.trans (u32.trans (u22.trans (u12.trans e2)))) (u45.trans u35) g56 ap
  have wlt : ∀ b, blockOf w = some b → b < H.next := fun b e => (ho.blk b e).2
  have ne4 : some b4 ≠ blockOf w := fun e => (I.wb b4 e.symm).1 rfl
  have ne5 : some H.next ≠ blockOf w := fun e => by have := wlt _ e.symm; omega
  have g47 := k7.of_get w6 g46 ne4
  have g57 := k7.of_get w6 g56 ne5
  have ks7 : Kept Hs H7 none := ks6.drop k7 (fun b e => by have := (ho.blk b e).1; omega)
  have hrc7 : rowG 4 lo H7 (ts.take T.length) tv' := hrc6.keepX k7 (fun b e e' => (hb b (hbc.symm.trans e')).2.1 e)
  have mk7 : ∀ m ∈ ms, H7.get m = some .defs := fun m hm => k7.of_get w6 (mk6 m hm) (fun e => (I.wb m e.symm).2 hm)
  have le7 := k7.le
  obtain ⟨hq0, hvs⟩ : rdVals Hs s = some x.2.own ∧ True := by
    obtain ⟨sv, xs, e', hs, hl, hh, hq⟩ := hvx.inv
    simp only [List.cons.injEq, true_and, and_true] at e'
    subst e'
    exact ⟨rdVals_of ⟨hs, hl, hh, hq⟩, trivial⟩
  obtain ⟨own, slo, hown⟩ := own_slice hq0
  have x7 := ks7.ext hws
  obtain ⟨a6, r6, u62, u64, u65, u66⟩ := pa_R8 (call := call) (lf := lf) (env := a5) (ds := ms.map ADef.mark) (u55.trans (u45.trans u35)) g57 (rdVals_ext x7 hq0) (sliceA_ext x7 slo)
  have oo := rdVals_one hown
  obtain ⟨a7, r7, u72, u74, u75, u744⟩ := pa_R9 (call := call) (lf := lf) (env := a6) (ds := ms.map ADef.mark) (H := H7) u66 (h74 own H7 ⟨oo.1, oo.2.1⟩)
  have k8 : Kept H7 (H7.push (.cells true 1 [own])) none := (Kept.refl ks7.wf none).push _
  have go := get_push_self H7 (.cells true 1 [own])
  have n8 : (H7.push (.cells true 1 [own])).next = H7.next + 1 := rfl
  generalize H7.push (.cells true 1 [own]) = H8 at *
  have hr8 := hrc7.keep k8
  have g48 := k8.of_get ks7.wf g47 (by simp)
  have g58 := k8.of_get ks7.wf g57 (by simp)
  have mk8 : ∀ m ∈ ms, H8.get m = some .defs := fun m hm => k8.of_get ks7.wf (mk7 m hm) (by simp)
  have tlt : ∀ b, blockOf tv' = some b → b < H.next := fun b e => (hr.blk b (hbc.symm.trans e)).2
  obtain ⟨H9, tv9, ts9, r8, ks9, kb9, g49, hr9, hp9, hb9, gd9⟩ := pa_range (call := call) (c5 := c5) (c0 := c0) (lf := lf) (E := a7) (ds := ms.map ADef.mark) (dp := x.1) hws k8.wf (ks7.trans k8) hlo h4 g48 hr8 hpc (fun b e => (hb b (hbc.symm.trans e)).1) g58 ⟨nb5, fun e => by have := tlt _ e; omega⟩ go ⟨by omega, fun e => by have := tlt _ e; omega⟩ hown (by rw [List.length_take]; omega) hlf (by omega) (by omega) hcall hround
    (u74.trans (u64.trans (u54.trans (u44.trans (u34.trans (u24.trans (u14.trans e4))))))) (u75.trans (u65.trans (u55.trans (u45.trans u35)))) u744
  have wS : ∀ b, blockOf w' = some b → b ∉ b4 :: (blockOf tv').toList := by
    intro b e hm
    rcases hb7 with h | ⟨b', h, hge⟩
    · rcases List.mem_cons.1 hm with h' | h'
      · exact (I.wb b (h.symm.trans e)).1 h'
      · rw [Option.mem_toList] at h'
        exact (hb b (hbc.symm.trans h')).2.1 (h.symm.trans e)
    · rw [h] at e
      cases e
      rcases List.mem_cons.1 hm with h' | h'
      · omega
      · rw [Option.mem_toList] at h'
        have := tlt _ h'
        omega
  have hw7 := hr7.blk
  have mlt : ∀ m ∈ ms, m < H.next := fun m hm => I.ks.wf.lt (I.mks m hm).1
  refine ⟨a7, H9, w', H8.next, ?_, u72.trans (u62.trans u52), u74.trans (u64.trans (u54.trans (u44.trans (u34.trans (u24.trans (u14.trans e4)))))), ks9, ⟨_, rowG.keepB (hr7.keep k8) kb9 wS, hpo.add ⟨s, rfl, hvx⟩⟩, ⟨tv9, ts9, g49, hr9, hp9, ?_⟩, ?_, ?_, ?_, ?_, ?_⟩
  · have hin : evCode Try.prog call lf 56 none (cAt Try.f50 (pPa ++ [1, 0])) a1 (ms.map ADef.mark) H = some (.normal, a7, .mark H8.next :: ms.map ADef.mark, H9) := by
      rw [ev_then (c := cAt Try.f50 (pPa ++ [1, 0])) (b := cAt Try.f50 (pPa ++ [1, 0, 1])) rfl r2, ev_then (c := cAt Try.f50 (pPa ++ [1, 0, 1])) (b := cAt Try.f50 (pPa ++ [1, 0, 1, 1])) rfl r3, ev_then (c := cAt Try.f50 (pPa ++ [1, 0, 1, 1])) (b := cAt Try.f50 (pPa ++ [1, 0, 1, 1, 1])) rfl r4,
        ev_then (c := cAt Try.f50 (pPa ++ [1, 0, 1, 1, 1])) (b := cAt Try.f50 (pPa ++ [1, 0, 1, 1, 1, 1])) rfl r5, ev_then (c := cAt Try.f50 (pPa ++ [1, 0, 1, 1, 1, 1])) (b := cAt Try.f50 (pPa ++ [1, 0, 1, 1, 1, 1, 1])) rfl r6, ev_then (c := cAt Try.f50 (pPa ++ [1, 0, 1, 1, 1, 1, 1])) (b := cAt Try.f50 (pPa ++ [1, 0, 1, 1, 1, 1, 1, 1])) rfl r7, r8]
    rw [ev_then (c := cAt Try.f50 pPa) (b := cAt Try.f50 (pPa ++ [1])) rfl r1, show cAt Try.f50 (pPa ++ [1]) = .block 1 (cAt Try.f50 (pPa ++ [1, 0])) from rfl, evCode_block, hin]
    rfl
  · intro b e
    obtain ⟨q1, q2⟩ := hb9 b e
    refine ⟨q1, fun ew => ?_, fun hm => ?_⟩
    · rcases q2 with q2 | q2
      · exact wS b ew (List.mem_cons_of_mem _ (by rw [Option.mem_toList]; exact q2))
      · have := (hw7 b ew).2; omega
    · rcases List.mem_cons.1 hm with h' | h'
      · rcases q2 with q2 | q2
        · have := tlt _ q2; omega
        · omega
      · rcases q2 with q2 | q2
        · exact (hb b (hbc.symm.trans q2)).2.2 h'
        · have := mlt b h'; omega
  · intro b e
    refine ⟨fun h => wS b e (by simp [h]), fun hm => ?_⟩
    rcases List.mem_cons.1 hm with h' | h'
    · have := (hw7 b e).2; omega
    · rcases hb7 with h | ⟨b', h, hge⟩
      · exact (I.wb b (h.symm.trans e)).2 h'
      · rw [h] at e; cases e
        have := mlt _ h'; omega
  · intro m hm
    rcases List.mem_cons.1 hm with rfl | h'
    · exact ⟨gd9, by omega, by have := ks7.le; omega⟩
    · obtain ⟨q1, q2, q3⟩ := I.mks m h'
      refine ⟨kb9.of_get k8.wf (mk8 m h') (fun hm => ?_), q2, q3⟩
      rcases List.mem_cons.1 hm with h | h
      · exact q2 h
      · rw [Option.mem_toList] at h
        exact (hb m (hbc.symm.trans h)).2.2 h'
  · refine List.nodup_cons.2 ⟨fun hm => ?_, I.nd⟩
    have := mlt _ hm; omega
  · intro p hpm
    rw [List.length_append, List.length_cons, List.length_nil]
    rcases List.mem_append.1 hpm with h | h
    · have := I.dpt p (by simp [h]); omega
    · obtain ⟨v, _, rfl⟩ := List.mem_map.1 h
      simp only; omega
  · simp only [List.length_append, List.length_map, List.length_reverse, List.length_take, List.length_cons, List.length_nil]
    omega
end Go.Proofs.Ytgopamojnoefiaa

namespace Go.Proofs.Ytgopamojnoefiaa
open Go Go.Abs
set_option maxRecDepth 100000
set_option linter.unusedSimpArgs false
set_option linter.unusedVariables false

theorem pa_loop {call c5 c0 : CallF} {lf : Nat} {Hs : Heap} {lo b4 : Nat} {R : List (Nat × ValD)} (hws : Hs.Wf) (hlo : Hs.next ≤ lo) (h4 : lo ≤ b4) (hlf : 256 < lf)
    (h74 : ∀ s K, s.cells = #[s] ∧ oneC s = true → call (.fn 74 [s]) K = some (.ret (.func (.func 94) #[] #[.pointer (some ⟨K.next, 0, none⟩)]), K.push (.cells true 1 [s]))) (hcall : ∀ args H, call (.fn 94 args) H = evFn Try.prog c5 lf 94 args H) (hround : ∀ l args H, c5 (.round l args) H = evRound Try.prog c0 lf l args H) :
    ∀ (d m : Nat) (env : Env) (H : Heap) (O T : List (Nat × ValD)) (w : Value) (ms : List Nat), d < m → O.length + d = 256 → PI Hs lo b4 O T w ms H → O ++ pend T = R → env.val 2 = w → env.val 4 = .pointer (some ⟨b4, 0, none⟩) →
    (R.length ≤ 256 → ∃ env' H' w' ms', evLoop Try.prog call lf 56 none (cAt Try.f50 pPa) m env (ms.map ADef.mark) H = some (.exit 0, env', ms'.map ADef.mark, H') ∧ env'.val 2 = w' ∧ PI Hs lo b4 R [] w' ms' H') ∧
    (256 < R.length → ∃ env' H' w' ms' O' T', evLoop Try.prog call lf 56 none (cAt Try.f50 pPa) m env (ms.map ADef.mark) H = some (.ret, env', ms'.map ADef.mark, H') ∧ env'.val 2 = w' ∧ env'.val 3 = .bool false ∧ PI Hs lo b4 O' T' w' ms' H')
  | d, 0, env, H, O, T, w, ms, hm, _, _, _, _, _ => by omega
  | d, m + 1, env, H, O, T, w, ms, hm, hd, hI, hR, e2, e4 => by
    rcases List.eq_nil_or_concat T with rfl | ⟨T', x, rfl⟩
    · obtain ⟨tv, ts, g4, hr, hp, hb⟩ := hI.td
      have hts : ts = [] := List.eq_nil_of_length_eq_zero (by rw [hp.1]; rfl)
      subst hts
      obtain ⟨env', he, u2⟩ := pa_exit (call := call) (lf := lf) (ds := ms.map ADef.mark) e4 g4 hr.rd
      have hRO : R = O := by rw [← hR]; simp [pend]
      simp only [evLoop_succ, he]
      refine ⟨fun _ => ⟨env', H, w, ms, rfl, u2.trans e2, hRO ▸ hI⟩, fun h => ?_⟩
      rw [hRO] at h; omega
    · rw [List.concat_eq_append] at hI hR
      have hpos : 0 < (pend (T' ++ [x])).length := pend_pos (by simp)
      cases d with
      | zero =>
        obtain ⟨tv, ts, g4, hr, hp, hb⟩ := hI.td
        obtain ⟨os, ho, hpo⟩ := hI.out
        have htl := hp.1
        simp only [List.length_append, List.length_cons, List.length_nil] at htl
        obtain ⟨a1, r1, u12, u14⟩ := pa_head (call := call) (lf := lf) (ds := ms.map ADef.mark) e4 g4 hr.rd (by omega)
        obtain ⟨a2, r2, u22, u23⟩ := (pa_R3 (call := call) (lf := lf) (env := a1) (ds := ms.map ADef.mark) (u12.trans e2) ho.rd).1 (by rw [hpo.1]; omega)
        have hst : evCode Try.prog call lf 56 none (cAt Try.f50 pPa) env (ms.map ADef.mark) H = some (.ret, a2, ms.map ADef.mark, H) := by
          rw [ev_then (c := cAt Try.f50 pPa) (b := cAt Try.f50 (pPa ++ [1])) rfl r1, show cAt Try.f50 (pPa ++ [1]) = .block 1 (cAt Try.f50 (pPa ++ [1, 0])) from rfl, evCode_block, ev_stop (c := cAt Try.f50 (pPa ++ [1, 0])) (a := cAt Try.f50 (pPa ++ [1, 0, 0])) (b := cAt Try.f50 (pPa ++ [1, 0, 1])) rfl r2 (by intro e; cases e)]
        simp only [evLoop_succ, hst]
        have hRl : 256 < R.length := by rw [← hR, List.length_append]; omega
        exact ⟨fun h => by omega, fun _ => ⟨a2, H, w, ms, O, T' ++ [x], rfl, u22, u23, hI⟩⟩
      | succ d =>
        obtain ⟨env', H', w', mk, he, u2, u4, hI'⟩ := pa_iter (call := call) (c5 := c5) (c0 := c0) (lf := lf) hws hlo h4 hI (by omega) hlf h74 hcall hround e2 e4
        simp only [evLoop_succ, he]
        exact pa_loop hws hlo h4 hlf h74 hcall hround d m env' H' (O ++ [x]) _ w' (mk :: ms) (by omega) (by simp; omega) hI' (by rw [← hR, pend_step]; simp) u2 u4

noncomputable def callP (lf : Nat) : CallF := ev1 Try.prog (ev1 Try.prog (fun _ _ => none) lf) lf
theorem callP_ok (lf : Nat) : CallOk Try.prog (callP lf) := ev1_sound (ev1_sound noCall_ok)

theorem pa_start {call : CallF} {lf : Nat} {H : Heap} {k n : Int} {s : Value} (os : oneC s = true) :
    ∃ e, (∀ out, evCode Try.prog call lf 56 none (cAt Try.f50 [1, 1]) e [] (((H.push (.cells true 3 [.int .i64 k, .int .i64 n, s])).push (.cells true 4 [.int .i64 k, .int .i64 n, s, .int .i64 0])).push (.cells true 1 [.slice none 0 0]) |>.set (H.next + 1 + 1) (.cells true 1 [.slice (some ⟨H.next + 1, 0, none⟩) 1 1])) = out → evCode Try.prog call lf 56 none (cAt Try.f50 []) (envOf 0 [.agg #[.int .i64 k, .int .i64 n, s]] .nil) [] H = out) ∧
      e.val 2 = .slice none 0 0 ∧ e.val 4 = .pointer (some ⟨H.next + 1 + 1, 0, none⟩) := by
  have r0 : ∃ e, evCode Try.prog call lf 56 none (cAt Try.f50 [0]) (envOf 0 [.agg #[.int .i64 k, .int .i64 n, s]] .nil) [] H = some (.normal, e, [], H.push (.cells true 3 [.int .i64 k, .int .i64 n, s])) ∧ e.val 1 = .pointer (some ⟨H.next, 0, none⟩) ∧ e.val 2 = .slice none 0 0 := by
    generalize hr : evCode Try.prog call lf 56 none (cAt Try.f50 [0]) (envOf 0 [.agg #[.int .i64 k, .int .i64 n, s]] .nil) [] H = out
    simp [Try.f50, os] at hr
    subst hr
    exact ⟨_, rfl, by simp, by simp⟩
  obtain ⟨e, r0, v1, v2⟩ := r0
  have ld : loadA Try.prog 25 (H.push (.cells true 3 [.int .i64 k, .int .i64 n, s])) H.next 0 = some (.agg #[.int .i64 k, .int .i64 n, s]) := by simp [loadA, get_push_self]
  have bs := build66 (H := H.push (.cells true 3 [.int .i64 k, .int .i64 n, s])) (k := k) (n := n) (dp := 0) (s := s)
  have hb := built75 (k := k) (n := n) (dp := 0) (s := s)
  simp only [Heap.next_push] at bs
  have g := get_push_self ((H.push (.cells true 3 [.int .i64 k, .int .i64 n, s])).push (.cells true 4 [.int .i64 k, .int .i64 n, s, .int .i64 0])) (.cells true 1 [.slice none 0 0])
  simp only [Heap.next_push] at g
  have st : storeA Try.prog 66 (((H.push (.cells true 3 [.int .i64 k, .int .i64 n, s])).push (.cells true 4 [.int .i64 k, .int .i64 n, s, .int .i64 0])).push (.cells true 1 [.slice none 0 0])) (H.next + 1 + 1) 0 (.slice (some ⟨H.next + 1, 0, none⟩) 1 1) = some ((((H.push (.cells true 3 [.int .i64 k, .int .i64 n, s])).push (.cells true 4 [.int .i64 k, .int .i64 n, s, .int .i64 0])).push (.cells true 1 [.slice none 0 0])).set (H.next + 1 + 1) (.cells true 1 [.slice (some ⟨H.next + 1, 0, none⟩) 1 1])) := by
    simp [storeA, g, putL]
  have r1 : ∃ e', evCode Try.prog call lf 56 none (cAt Try.f50 [1, 0]) e [] (H.push (.cells true 3 [.int .i64 k, .int .i64 n, s])) = some (.normal, e', [], (((H.push (.cells true 3 [.int .i64 k, .int .i64 n, s])).push (.cells true 4 [.int .i64 k, .int .i64 n, s, .int .i64 0])).push (.cells true 1 [.slice none 0 0])).set (H.next + 1 + 1) (.cells true 1 [.slice (some ⟨H.next + 1, 0, none⟩) 1 1])) ∧ e'.val 2 = .slice none 0 0 ∧ e'.val 4 = .pointer (some ⟨H.next + 1 + 1, 0, none⟩) := by
    generalize hr : evCode Try.prog call lf 56 none (cAt Try.f50 [1, 0]) e [] (H.push (.cells true 3 [.int .i64 k, .int .i64 n, s])) = out
    simp [Try.f50, v1, ld, hb, bs, st] at hr
    subst hr
    exact ⟨_, rfl, by simp [v2], by simp⟩
  obtain ⟨e', r1, w2, w4⟩ := r1
  refine ⟨e', fun out h => ?_, w2, w4⟩
  rw [ev_then (c := cAt Try.f50 []) (b := cAt Try.f50 [1]) rfl r0, ev_then (c := cAt Try.f50 [1]) (b := cAt Try.f50 [1, 1]) rfl r1, h]
theorem pa_R12 {call : CallF} {lf : Nat} {env : Env} {ds : List ADef} {H : Heap} {w : Value} (e2 : env.val 2 = w) :
    ∃ e, evCode Try.prog call lf 56 none (cAt Try.f50 [1, 1, 1]) env ds H = some (.ret, e, ds, H) ∧ e.val 2 = w ∧ e.val 3 = .bool true := by
  generalize hr : evCode Try.prog call lf 56 none (cAt Try.f50 [1, 1, 1]) env ds H = out
  simp [Try.f50, e2] at hr
  subst hr
  exact ⟨_, rfl, by simp, by simp⟩
theorem pa_leave {call : CallF} {lf : Nat} {env : Env} {H : Heap} {w : Value} {b : Bool} (e2 : env.val 2 = w) (e3 : env.val 3 = .bool b) : evLeave Try.prog call lf Try.f50 env [] .ret H = some (.ret (.tuple #[w, .bool b]), H) := by
  simp [Try.f50, e2, e3]

/-- parts. -/
theorem parts_run {lf : Nat} {H : Heap} {v : Value} {d : ValD} (hw : H.Wf) (hv : rdVal H v = some d) (hlf : 300 ≤ lf) :
    ((preC 0 d).length ≤ 256 → ∃ w H' os, evFn Try.prog (callP lf) lf 50 [v] H = some (.ret (.tuple #[w, .bool true]), H') ∧ Kept H H' none ∧ rowG 4 H.next H' os w ∧ PartsC H (preC 0 d) os) ∧
    (256 < (preC 0 d).length → ∃ w H', evFn Try.prog (callP lf) lf 50 [v] H = some (.ret (.tuple #[w, .bool false]), H') ∧ Kept H H' none ∧ w.cells = #[w] ∧ oneC w = true) := by
  obtain ⟨s, xs, rfl, h1, h2, h3, hva, sc, os, _⟩ := rdVal_cells hv
  obtain ⟨e, hst, e2, e4⟩ := pa_start (call := callP lf) (lf := lf) (H := H) (k := d.kind) (n := d.num) os
  have k1 : Kept H (((H.push (.cells true 3 [.int .i64 d.kind, .int .i64 d.num, s])).push (.cells true 4 [.int .i64 d.kind, .int .i64 d.num, s, .int .i64 0])).push (.cells true 1 [.slice none 0 0]) |>.set (H.next + 1 + 1) (.cells true 1 [.slice (some ⟨H.next + 1, 0, none⟩) 1 1])) none := ((((Kept.refl hw none).push _).push _).push _).set (by omega) (by simp) _
  have g4 : (((H.push (.cells true 3 [.int .i64 d.kind, .int .i64 d.num, s])).push (.cells true 4 [.int .i64 d.kind, .int .i64 d.num, s, .int .i64 0])).push (.cells true 1 [.slice none 0 0]) |>.set (H.next + 1 + 1) (.cells true 1 [.slice (some ⟨H.next + 1, 0, none⟩) 1 1])).get (H.next + 1 + 1) = some (.cells true 1 [.slice (some ⟨H.next + 1, 0, none⟩) 1 1]) := get_set_self _ _ _
  have hr0 : rowG 4 H.next (((H.push (.cells true 3 [.int .i64 d.kind, .int .i64 d.num, s])).push (.cells true 4 [.int .i64 d.kind, .int .i64 d.num, s, .int .i64 0])).push (.cells true 1 [.slice none 0 0]) |>.set (H.next + 1 + 1) (.cells true 1 [.slice (some ⟨H.next + 1, 0, none⟩) 1 1])) [[.int .i64 d.kind, .int .i64 d.num, s, .int .i64 0]] (.slice (some ⟨H.next + 1, 0, none⟩) 1 1) := by
    have a := rowG_push (es := 4) (H := H.push (.cells true 3 [.int .i64 d.kind, .int .i64 d.num, s])) (xs := [[.int .i64 d.kind, .int .i64 d.num, s, .int .i64 0]]) (by intro x hx; simp at hx; subst hx; rfl) (by simp [BIG_val]) (lo := H.next) (by simp)
    exact (a.keep ((Kept.refl ((hw.push _).push _) none).push _)).set (by intro e; simp [blockOf] at e) _
  generalize (((H.push (.cells true 3 [.int .i64 d.kind, .int .i64 d.num, s])).push (.cells true 4 [.int .i64 d.kind, .int .i64 d.num, s, .int .i64 0])).push (.cells true 1 [.slice none 0 0]) |>.set (H.next + 1 + 1) (.cells true 1 [.slice (some ⟨H.next + 1, 0, none⟩) 1 1])) = H1 at *
  have I0 : PI H H.next (H.next + 1 + 1) [] [(0, d)] (.slice none 0 0) [] H1 := by
    refine ⟨k1, ⟨[], .inl ⟨rfl, rfl⟩, rfl, fun i p hp => by simp at hp⟩, ⟨_, _, g4, hr0, ⟨rfl, fun i p hp => ?_⟩, fun b hb => ⟨?_, by simp [blockOf], by simp⟩⟩, fun b hb => by simp [blockOf] at hb, fun m hm => by simp at hm, List.nodup_nil, fun p hp => by simp at hp; subst hp; simp, by simp⟩
    · cases i with
      | zero => simp at hp; subst hp; exact ⟨_, rfl, s, rfl, hva⟩
      | succ i => simp at hp
    · simp [blockOf] at hb; omega
  have hloop := pa_loop (call := callP lf) (c5 := ev1 Try.prog (fun _ _ => none) lf) (c0 := fun _ _ => none) (lf := lf) (R := preC 0 d) hw (Nat.le_refl _) (by omega) (by omega) (fun s K h => backward_run h) (fun args H => rfl) (fun l args H => rfl) 256 lf e H1 [] [(0, d)] _ [] (by omega) (by simp) I0 (by simp [pend]) e2 e4
  have hfn : ∀ {out}, evCode Try.prog (callP lf) lf 56 none (cAt Try.f50 [1, 1]) e [] H1 = out → evFn Try.prog (callP lf) lf 50 [.agg #[.int .i64 d.kind, .int .i64 d.num, s]] H = fnEnd Try.prog (callP lf) lf Try.f50 out := fun h => by
    rw [evFn_at Try.func50 body50 (by simp), Try.ntmps50, hst _ h]
  constructor
  · intro hle
    obtain ⟨env', H', w', ms', r, u2, hI⟩ := hloop.1 hle
    obtain ⟨e3, r12, q2, q3⟩ := pa_R12 (call := callP lf) (lf := lf) (ds := ms'.map ADef.mark) (H := H') u2
    obtain ⟨os', ho, hpo⟩ := hI.out
    obtain ⟨H2, hl, k2, hsame⟩ := leave_marks (call := callP lf) (lf := lf) (fn := Try.f50) (env := e3) (pm := .ret) ms' H' hI.ks (fun m hm => ⟨(hI.mks m hm).1, (hI.mks m hm).2.2⟩) hI.nd
    refine ⟨w', H2, os', (hfn (out := some (.ret, e3, ms'.map ADef.mark, H')) ?_).trans ?_, k2, ?_, hpo⟩
    · rw [ev_then (c := cAt Try.f50 [1, 1]) (b := cAt Try.f50 [1, 1, 1]) (a := cAt Try.f50 [1, 1, 0]) rfl (by rw [show cAt Try.f50 [1, 1, 0] = .block 0 (.loop (cAt Try.f50 pPa)) from rfl, evCode_block, evCode_loop, show ([] : List ADef) = ([] : List Nat).map ADef.mark from rfl, r]; rfl), r12]
    · show evLeave Try.prog (callP lf) lf Try.f50 e3 (ms'.map ADef.mark) .ret H' = _
      rw [hl, pa_leave q2 q3]
    · rcases ho with ho | ⟨b, c, cs, a1, a2, a3, a4, a5, a6, a7⟩
      · exact .inl ho
      · have hbm := (hI.wb b (by rw [a1]; rfl)).2
        exact .inr ⟨b, c, cs, a1, by rw [hsame b hbm]; exact a2, a3, a4, a5, k2.wf.lt (by rw [hsame b hbm]; exact a2), a7⟩
  · intro hgt
    obtain ⟨env', H', w', ms', O', T', r, u2, u3, hI⟩ := hloop.2 hgt
    obtain ⟨os', ho, hpo⟩ := hI.out
    obtain ⟨H2, hl, k2, hsame⟩ := leave_marks (call := callP lf) (lf := lf) (fn := Try.f50) (env := env') (pm := .ret) ms' H' hI.ks (fun m hm => ⟨(hI.mks m hm).1, (hI.mks m hm).2.2⟩) hI.nd
    refine ⟨w', H2, (hfn (out := some (.ret, env', ms'.map ADef.mark, H')) ?_).trans ?_, k2, ho.one.1, ho.one.2.1⟩
    · rw [ev_stop (c := cAt Try.f50 [1, 1]) (b := cAt Try.f50 [1, 1, 1]) (a := cAt Try.f50 [1, 1, 0]) rfl (by rw [show cAt Try.f50 [1, 1, 0] = .block 0 (.loop (cAt Try.f50 pPa)) from rfl, evCode_block, evCode_loop, show ([] : List ADef) = ([] : List Nat).map ADef.mark from rfl, r]) (by intro e; cases e)]
    · show evLeave Try.prog (callP lf) lf Try.f50 env' (ms'.map ADef.mark) .ret H' = _
      rw [hl, pa_leave u2 u3]
end Go.Proofs.Ytgopamojnoefiaa

namespace Go.Proofs.Ytgopamojnoefiaa
open Go Go.Abs
set_option maxRecDepth 100000
set_option linter.unusedSimpArgs false
set_option linter.unusedVariables false

/-! ### right (49) -/
def rightL (d : ValD) : Bool := decide ((preC 0 d).length ≤ 256) && (preC 0 d).all fun p => shapeL p.2
theorem sizes_take : ∀ (l : List ValD) (c : Nat), ValD.sizes (l.take c) ≤ ValD.sizes l
  | [], c => by simp [ValD.sizes]
  | v :: l, 0 => by simp [ValD.sizes]
  | v :: l, c + 1 => by have := sizes_take l c; simp only [List.take_succ_cons, ValD.sizes]; omega
theorem preC_size : ∀ (d : ValD) (dp : Nat) (p : Nat × ValD), p ∈ preC dp d → p.2.size ≤ d.size := by
  intro d
  induction d using ValD.ind with
  | h d ih =>
    intro dp p hp
    rw [preC_eq] at hp
    rcases List.mem_cons.1 hp with rfl | hp
    · exact Nat.le_refl _
    · obtain ⟨v, hv, hpv⟩ := List.mem_flatMap.1 hp
      have hvo := List.mem_of_mem_take hv
      have := ih v hvo (dp + 1) p hpv
      have := ValD.mem_size hvo
      omega

noncomputable def pickR (lf : Nat) (f : FuncId) : CallF := if f = 72 then ev1 Try.prog (fun _ _ => none) 0 else callP lf
noncomputable def inR (lf : Nat) : CallF := fun job H => match job with
  | .fn f args => evFn Try.prog (pickR lf f) lf f args H
  | .round _ _ => none
theorem inR_ok (lf : Nat) : CallOk Try.prog (inR lf) := by
  intro job H res H' h
  cases job with
  | fn f args =>
    have hp : CallOk Try.prog (pickR lf f) := by
      unfold pickR
      split
      · exact ev1_sound noCall_ok
      · exact callP_ok lf
    exact ev1_sound hp (.fn f args) H res H' h
  | round l args => cases h
noncomputable def callR (lf : Nat) : CallF := orC (callOf c49) (inR lf)
theorem callR_ok (lf : Nat) : CallOk Try.prog (callR lf) := orC_ok (callOf_ok _) (inR_ok lf)
theorem c49_miss {f : FuncId} {args : List Value} {H : Heap} (h : f = 72 ∨ f = 50) : callOf c49 (.fn f args) H = none := by
  unfold c49
  rcases h with rfl | rfl <;> (iterate 11 rw [callOf_miss (by decide)]) <;> rfl
theorem callR_shapes {lf : Nat} {H : Heap} : callR lf (.fn 72 []) H = some (.ret (.agg (tabCells (H.next + 1)).toArray), tabHeap H) := by
  unfold callR
  rw [orC_miss (c49_miss (.inl rfl))]
  have hp : pickR lf 72 = ev1 Try.prog (fun _ _ => none) 0 := by unfold pickR; rw [if_pos rfl]
  show evFn Try.prog (pickR lf 72) lf 72 [] H = _
  rw [hp]
  exact shapes_run
theorem callR_parts {lf : Nat} {H : Heap} {v : Value} : callR lf (.fn 50 [v]) H = evFn Try.prog (callP lf) lf 50 [v] H := by
  unfold callR
  rw [orC_miss (c49_miss (.inr rfl))]
  have hp : pickR lf 50 = callP lf := by unfold pickR; rw [if_neg (by decide)]
  show evFn Try.prog (pickR lf 50) lf 50 [v] H = _
  rw [hp]
theorem callR_of {lf : Nat} {f : FuncId} {args : List Value} {K : Heap} {r : CRes × Heap} (h : callOf c49 (.fn f args) K = some r) : callR lf (.fn f args) K = some r := orC_hit h

/-- The loop over a value's parts. -/
theorem ri_loop {call : CallF} {lf : Nat} {H0 : Heap} {bt nb : Nat} {w : Value} {ps : List (List Value)} {l : List (Nat × ValD)} (hw0 : H0.Wf) (hp : rdS H0 4 w = some ps) (hpl : PartsC H0 l ps) (hn : l.length ≤ 1000) (ht : H0.get bt = some (.cells true 28 (tabCells nb))) (hB : Boxes H0 nb) (hsz : ∀ p ∈ l, p.2.size ≤ 1073741824)
    (hc : ∀ f args K r, callOf c49 (.fn f args) K = some r → call (.fn f args) K = some r) :
    ∀ (d i m : Nat) (env : Env) (K : Heap), d < m → l.length = i + d → Kept H0 K none → env.val 2 = .pointer (some ⟨bt, 0, none⟩) → env.val 23 = w → env.val 24 = .int .i64 l.length → env.val 25 = .int .i64 i →
    ((l.drop i).all (fun p => shapeL p.2) = true → ∃ env' K', evLoop Try.prog call lf 66 none (cAt Try.f49 pRi) m env [] K = some (.exit 2, env', [], K') ∧ env'.val 2 = env.val 2 ∧ env'.val 10 = env.val 10 ∧ env'.val 11 = env.val 11 ∧ env'.val 12 = env.val 12 ∧ Kept H0 K' none) ∧
    ((l.drop i).all (fun p => shapeL p.2) = false → ∃ env' K', evLoop Try.prog call lf 66 none (cAt Try.f49 pRi) m env [] K = some (.panic (.iface 28 (.int .i64 40)), env', [], K') ∧ Kept H0 K' none)
  | d, i, 0, env, K, hm, _, _, _, _, _, _ => by omega
  | 0, i, m + 1, env, K, hm, hd, hk, e2, e23, e24, e25 => by
    obtain ⟨env', he, u2, u10, u11, u12⟩ := ri_exit (call := call) (lf := lf) (ds := []) (H := K) e24 e25 (by omega)
    simp only [evLoop_succ, he]
    rw [List.drop_eq_nil_of_le (by omega)]
    exact ⟨fun _ => ⟨env', K, rfl, u2, u10, u11, u12, hk⟩, fun h => by simp at h⟩
  | d + 1, i, m + 1, env, K, hm, hd, hk, e2, e23, e24, e25 => by
    have hx := List.getElem?_eq_getElem (l := l) (i := i) (by omega)
    have hdr := List.drop_eq_getElem_cons (l := l) (i := i) (by omega)
    have xk := hk.ext hw0
    obtain ⟨y, hy, s, rfl, hv⟩ := hpl.2 i _ hx
    have hown : (l[i]'(by omega)).2.own.length < 1099511627776 := by
      have a := hsz _ (List.getElem_mem (l := l) (n := i) (by omega))
      have b := ValD.length_sizes (l[i]'(by omega)).2.own
      have c := ValD.size_eq (l[i]'(by omega)).2
      omega
    obtain ⟨g1, g2⟩ := ri_step (call := call) (lf := lf) (ds := []) hk.wf e2 e23 e24 e25 (rdS_ext xk hp) hpl.1 hn hy (hv.ext xk) (xk _ _ ht) (hB.ext xk) hown hc
    obtain ⟨s', e', _, os, _⟩ := hv.one
    have kp := partIn_kept hk.wf (l[i]'(by omega)).2.kind (l[i]'(by omega)).2.num s ((l[i]'(by omega)).1 : Int)
    rw [hdr, List.all_cons]
    cases h : shapeL (l[i]'(by omega)).2 with
    | true =>
      obtain ⟨env', he, u2, u10, u11, u12, u23, u24, u25⟩ := g1 h
      obtain ⟨r1, r2⟩ := ri_loop hw0 hp hpl hn ht hB hsz hc d (i + 1) m env' _ (by omega) (by omega) (hk.trans kp) (u2.trans e2) (u23.trans e23) (u24.trans e24) u25
      simp only [evLoop_succ, he, Bool.true_and]
      refine ⟨fun ha => ?_, r2⟩
      obtain ⟨e1, K', a, b2, b10, b11, b12, b⟩ := r1 ha
      exact ⟨e1, K', a, b2.trans u2, b10.trans u10, b11.trans u11, b12.trans u12, b⟩
    | false =>
      obtain ⟨env', he⟩ := g2 h
      simp only [evLoop_succ, he, Bool.false_and]
      exact ⟨(fun h => by cases h), fun _ => ⟨env', _, rfl, hk.trans kp⟩⟩

def pRo : List Nat := [1, 1, 0, 0]
theorem ro_exit {call : CallF} {lf : Nat} {env : Env} {H : Heap} {i n : Nat} (e11 : env.val 11 = .int .i64 n) (e12 : env.val 12 = .int .i64 i) (hi : n ≤ i) :
    ∃ env', evCode Try.prog call lf 66 none (cAt Try.f49 pRo) env [] H = some (.exit 0, env', [], H) := by
  have c1 : ¬ (i : Int) < (n : Int) := by omega
  generalize hr : evCode Try.prog call lf 66 none (cAt Try.f49 pRo) env [] H = out
  simp [pRo, Try.f49, e11, e12, c1, hi] at hr
  subst hr
  exact ⟨_, rfl⟩
theorem ro_R2 {call : CallF} {lf : Nat} {env : Env} {H : Heap} {i n : Nat} (e11 : env.val 11 = .int .i64 n) (e12 : env.val 12 = .int .i64 i) (hi : i < n) :
    ∃ env', evCode Try.prog call lf 66 none (cAt Try.f49 (pRo ++ [0])) env [] H = some (.normal, env', [], H) ∧ env'.val 2 = env.val 2 ∧ env'.val 10 = env.val 10 ∧ env'.val 11 = env.val 11 ∧ env'.val 12 = env.val 12 ∧ env'.val 13 = .bool true := by
  have c1 : (i : Int) < (n : Int) := by omega
  generalize hr : evCode Try.prog call lf 66 none (cAt Try.f49 (pRo ++ [0])) env [] H = out
  simp [pRo, Try.f49, e11, e12, c1, hi] at hr
  subst hr
  exact ⟨_, rfl, by simp, by simp, by simp [e11], by simp [e12], by simp⟩
theorem ro_cond {call : CallF} {lf : Nat} {env : Env} {H : Heap} (e13 : env.val 13 = .bool true) : evCode Try.prog call lf 66 none (cAt Try.f49 (pRo ++ [1, 0])) env [] H = some (.normal, env, [], H) := by
  simp [pRo, Try.f49, e13]
noncomputable def valIn (H : Heap) (k n : Int) (s : Value) : Heap := (H.push (.cells true 3 [.int .i64 0, .int .i64 0, .slice none 0 0])).set H.next (.cells true 3 [.int .i64 k, .int .i64 n, s])
theorem store25 {H : Heap} {k n : Int} {s : Value} (os : oneC s = true) : storeA Try.prog 25 (H.push (.cells true 3 [.int .i64 0, .int .i64 0, .slice none 0 0])) H.next 0 (.agg #[.int .i64 k, .int .i64 n, s]) = some (valIn H k n s) := by
  have hg := get_push_self H (.cells true 3 [.int .i64 0, .int .i64 0, .slice none 0 0])
  simp [storeA, hg, os, putL]
  rfl
theorem ro_R3 {call : CallF} {lf : Nat} {env : Env} {H : Heap} {i : Nat} {s0 s : Value} {vs : List ValD} {d : ValD} (hvs : rdVals H s0 = some vs) (hd : vs[i]? = some d) (e10 : env.val 10 = s0) (e12 : env.val 12 = .int .i64 i) (lv : loadA Try.prog 25 H (blk s0) (offs s0 + i * 3) = some (.agg #[.int .i64 d.kind, .int .i64 d.num, s])) (os : oneC s = true) :
    ∃ env', evCode Try.prog call lf 66 none (cAt Try.f49 (pRo ++ [1, 1, 0, 0, 0])) env [] H = some (.normal, env', [], valIn H d.kind d.num s) ∧ env'.val 2 = env.val 2 ∧ env'.val 10 = env.val 10 ∧ env'.val 11 = env.val 11 ∧ env'.val 12 = env.val 12 ∧ env'.val 4 = .pointer (some ⟨H.next, 0, none⟩) := by
  obtain ⟨_, ix, _⟩ := rdVals_at hvs hd
  have st := store25 (H := H) (k := d.kind) (n := d.num) os
  generalize hr : evCode Try.prog call lf 66 none (cAt Try.f49 (pRo ++ [1, 1, 0, 0, 0])) env [] H = out
  simp [pRo, Try.f49, e10, e12, ix, lv, st] at hr
  subst hr
  exact ⟨_, rfl, by simp, by simp [e10], by simp, by simp [e12], by simp⟩
theorem ro_R4 {call : CallF} {lf : Nat} {env : Env} {H H' : Heap} {b4 : Nat} {v w : Value} {b : Bool} (e4 : env.val 4 = .pointer (some ⟨b4, 0, none⟩)) (ld : loadA Try.prog 25 H b4 0 = some v) (hc : call (.fn 50 [v]) H = some (.ret (.tuple #[w, .bool b]), H')) :
    ∃ env', evCode Try.prog call lf 66 none (cAt Try.f49 (pRo ++ [1, 1, 0, 0, 1, 0])) env [] H = some (.normal, env', [], H') ∧ env'.val 2 = env.val 2 ∧ env'.val 10 = env.val 10 ∧ env'.val 11 = env.val 11 ∧ env'.val 12 = env.val 12 ∧ env'.val 5 = w ∧ env'.val 6 = .bool b := by
  generalize hr : evCode Try.prog call lf 66 none (cAt Try.f49 (pRo ++ [1, 1, 0, 0, 1, 0])) env [] H = out
  simp [pRo, Try.f49, e4, ld, callA, hc] at hr
  subst hr
  exact ⟨_, rfl, by simp, by simp, by simp, by simp, by simp, by simp⟩
theorem ro_R5 {call : CallF} {lf : Nat} {env : Env} {H : Heap} {b : Bool} (e6 : env.val 6 = .bool b) (hc : call (.fn 73 [.bool b, .int .i64 40]) H = some (bif b then .ret (.tuple #[]) else .pan (.iface 28 (.int .i64 40)), H)) :
    (b = true → ∃ env', evCode Try.prog call lf 66 none (cAt Try.f49 (pRo ++ [1, 1, 0, 0, 1, 1, 0])) env [] H = some (.normal, env', [], H) ∧ env'.val 2 = env.val 2 ∧ env'.val 10 = env.val 10 ∧ env'.val 11 = env.val 11 ∧ env'.val 12 = env.val 12 ∧ env'.val 5 = env.val 5) ∧
    (b = false → ∃ env', evCode Try.prog call lf 66 none (cAt Try.f49 (pRo ++ [1, 1, 0, 0, 1, 1, 0])) env [] H = some (.panic (.iface 28 (.int .i64 40)), env', [], H)) := by
  constructor
  · rintro rfl
    simp only [cond_true] at hc
    generalize hr : evCode Try.prog call lf 66 none (cAt Try.f49 (pRo ++ [1, 1, 0, 0, 1, 1, 0])) env [] H = out
    simp [pRo, Try.f49, e6, callA, hc] at hr
    subst hr
    exact ⟨_, rfl, by simp, by simp, by simp, by simp, by simp⟩
  · rintro rfl
    simp only [cond_false] at hc
    generalize hr : evCode Try.prog call lf 66 none (cAt Try.f49 (pRo ++ [1, 1, 0, 0, 1, 1, 0])) env [] H = out
    simp [pRo, Try.f49, e6, callA, hc] at hr
    subst hr
    exact ⟨_, rfl⟩
theorem ro_R6 {call : CallF} {lf : Nat} {env : Env} {H : Heap} {w : Value} {n : Nat} (e5 : env.val 5 = w) (hl : builtinA Try.prog .len #[66] [w] H = some (.val (.int .i64 n), H)) :
    ∃ env', evCode Try.prog call lf 66 none (cAt Try.f49 (pRo ++ [1, 1, 0, 0, 1, 1, 1, 0])) env [] H = some (.normal, env', [], H) ∧ env'.val 2 = env.val 2 ∧ env'.val 10 = env.val 10 ∧ env'.val 11 = env.val 11 ∧ env'.val 12 = env.val 12 ∧ env'.val 23 = w ∧ env'.val 24 = .int .i64 n ∧ env'.val 25 = .int .i64 (0 : Nat) := by
  generalize hr : evCode Try.prog call lf 66 none (cAt Try.f49 (pRo ++ [1, 1, 0, 0, 1, 1, 1, 0])) env [] H = out
  simp [pRo, Try.f49, e5, hl] at hr
  subst hr
  exact ⟨_, rfl, by simp, by simp, by simp, by simp, by simp, by simp, by simp⟩
theorem ro_R11 {call : CallF} {lf : Nat} {env : Env} {H : Heap} {i : Nat} (e12 : env.val 12 = .int .i64 i) (hi : i < 1099511627776) :
    ∃ env', evCode Try.prog call lf 66 none (cAt Try.f49 (pRo ++ [1, 1, 1])) env [] H = some (.normal, env', [], H) ∧ env'.val 2 = env.val 2 ∧ env'.val 10 = env.val 10 ∧ env'.val 11 = env.val 11 ∧ env'.val 12 = .int .i64 ((i + 1 : Nat) : Int) := by
  have w1 : IntKind.i64.wrap ((i : Int) + 1) = (i : Int) + 1 := wrapI (by omega) (by omega)
  generalize hr : evCode Try.prog call lf 66 none (cAt Try.f49 (pRo ++ [1, 1, 1])) env [] H = out
  simp [pRo, Try.f49, e12, w1] at hr
  subst hr
  exact ⟨_, rfl, by simp, by simp, by simp, by simp⟩
end Go.Proofs.Ytgopamojnoefiaa

namespace Go.Proofs.Ytgopamojnoefiaa
open Go Go.Abs
set_option maxRecDepth 100000
set_option linter.unusedSimpArgs false
set_option linter.unusedVariables false

theorem valIn_kept {H : Heap} (hw : H.Wf) (k n : Int) (s : Value) : Kept H (valIn H k n s) none := ((Kept.refl hw none).push _).set (Nat.le_refl _) (by simp) _
theorem valIn_self (H : Heap) (k n : Int) (s : Value) : (valIn H k n s).get H.next = some (.cells true 3 [.int .i64 k, .int .i64 n, s]) := get_set_self _ _ _

theorem ro_step {lf : Nat} {H0 K : Heap} {bt nb i : Nat} {env : Env} {s0 : Value} {vs : List ValD} {d : ValD} (hw0 : H0.Wf) (hvs : rdVals H0 s0 = some vs) (hd : vs[i]? = some d) (hn : vs.length ≤ 1000) (hlf : 1000 ≤ lf) (hsz : d.size ≤ 1073741824) (ht : H0.get bt = some (.cells true 28 (tabCells nb))) (hB : Boxes H0 nb) (hk : Kept H0 K none)
    (e2 : env.val 2 = .pointer (some ⟨bt, 0, none⟩)) (e10 : env.val 10 = s0) (e11 : env.val 11 = .int .i64 vs.length) (e12 : env.val 12 = .int .i64 i) :
    (rightL d = true → ∃ env' K', evCode Try.prog (callR lf) lf 66 none (cAt Try.f49 pRo) env [] K = some (.normal, env', [], K') ∧ env'.val 2 = env.val 2 ∧ env'.val 10 = env.val 10 ∧ env'.val 11 = env.val 11 ∧ env'.val 12 = .int .i64 ((i + 1 : Nat) : Int) ∧ Kept H0 K' none) ∧
    (rightL d = false → ∃ env' K', evCode Try.prog (callR lf) lf 66 none (cAt Try.f49 pRo) env [] K = some (.panic (.iface 28 (.int .i64 40)), env', [], K') ∧ Kept H0 K' none) := by
  have hi := (List.getElem?_eq_some_iff.1 hd).1
  have xk := hk.ext hw0
  obtain ⟨a1, r1, u2, u10, u11, u12, u13⟩ := ro_R2 (call := callR lf) (lf := lf) (H := K) e11 e12 hi
  have r1c := ro_cond (call := callR lf) (lf := lf) (H := K) u13
  obtain ⟨s, ix, _, lv, hv, os⟩ := rdVals_at (rdVals_ext xk hvs) hd
  obtain ⟨a2, r2, w2, w10, w11, w12, w4⟩ := ro_R3 (call := callR lf) (lf := lf) (env := a1) (rdVals_ext xk hvs) hd (u10.trans e10) (u12.trans e12) lv os
  have k3 := valIn_kept hk.wf d.kind d.num s
  have g3 := valIn_self K d.kind d.num s
  generalize valIn K d.kind d.num s = K3 at *
  have ld : loadA Try.prog 25 K3 K.next 0 = some (.agg #[.int .i64 d.kind, .int .i64 d.num, s]) := by simp [loadA, g3]
  have hv3 : rdVal K3 (.agg #[.int .i64 d.kind, .int .i64 d.num, s]) = some d := rdVal_of (hv.ext (k3.ext hk.wf))
  obtain ⟨p1, p2⟩ := parts_run (lf := lf) k3.wf hv3 (by omega)
  have hmust : ∀ (b : Bool) (K : Heap), callR lf (.fn 73 [.bool b, .int .i64 40]) K = some (bif b then .ret (.tuple #[]) else .pan (.iface 28 (.int .i64 40)), K) := fun b K => callR_of must_call
  have hin : ∀ {o : Out}, evCode Try.prog (callR lf) lf 66 none (cAt Try.f49 (pRo ++ [1, 1, 0, 0])) a1 [] K = some o → o.1 ≠ .exit 1 → o.1 ≠ .normal → evCode Try.prog (callR lf) lf 66 none (cAt Try.f49 pRo) env [] K = some o := fun {o} h hne hnn => by
    obtain ⟨x, e', d', h'⟩ := o
    have hb : evCode Try.prog (callR lf) lf 66 none (cAt Try.f49 (pRo ++ [1, 1, 0])) a1 [] K = some (x, e', d', h') := by
      rw [show cAt Try.f49 (pRo ++ [1, 1, 0]) = .block 1 (cAt Try.f49 (pRo ++ [1, 1, 0, 0])) from rfl, evCode_block, h]
      cases x with
      | exit id => simp only; rw [if_neg (fun e => hne (by rw [e]))]
      | _ => rfl
    rw [ev_then (c := cAt Try.f49 pRo) (b := cAt Try.f49 (pRo ++ [1])) rfl r1, ev_then (c := cAt Try.f49 (pRo ++ [1])) (b := cAt Try.f49 (pRo ++ [1, 1])) rfl r1c, ev_stop (c := cAt Try.f49 (pRo ++ [1, 1])) (a := cAt Try.f49 (pRo ++ [1, 1, 0])) (b := cAt Try.f49 (pRo ++ [1, 1, 1])) rfl hb hnn]
  by_cases hle : (preC 0 d).length ≤ 256
  · obtain ⟨w, K4, ps, c50, k4, hrow, hps⟩ := p1 hle
    obtain ⟨a3, r3, x2, x10, x11, x12, x5, x6⟩ := ro_R4 (call := callR lf) (lf := lf) (env := a2) w4 ld (callR_parts.trans c50)
    obtain ⟨a4, r4, y2, y10, y11, y12, y5⟩ := (ro_R5 (call := callR lf) (lf := lf) (env := a3) (H := K4) x6 (hmust _ _)).1 rfl
    have hlen := len_of (H' := K4) (P := Try.prog) (t := 66) hrow.rd Try.underlying66
    rw [hps.1] at hlen
    obtain ⟨a5, r5, z2, z10, z11, z12, z23, z24, z25⟩ := ro_R6 (call := callR lf) (lf := lf) (env := a4) (y5.trans x5) hlen
    have k04 := (hk.trans k3).trans k4
    have x4 := k04.ext hw0
    obtain ⟨q1, q2⟩ := ri_loop (call := callR lf) (lf := lf) k4.wf hrow.rd (hps.ext (k4.ext k3.wf)) (by omega) (x4 _ _ ht) (hB.ext x4) (fun p hp => by have := preC_size d 0 p hp; omega) (fun f args K r h => callR_of h) (preC 0 d).length 0 lf a5 K4 (by omega) (by omega) (Kept.refl k4.wf none) (z2.trans (y2.trans (x2.trans (w2.trans (u2.trans e2))))) z23 z24 z25
    simp only [List.drop_zero] at q1 q2
    have hR : rightL d = (preC 0 d).all fun p => shapeL p.2 := by unfold rightL; rw [decide_eq_true hle, Bool.true_and]
    rw [hR]
    have pre : ∀ {o}, evCode Try.prog (callR lf) lf 66 none (cAt Try.f49 (pRo ++ [1, 1, 0, 0, 1, 1, 1, 1])) a5 [] K4 = o → evCode Try.prog (callR lf) lf 66 none (cAt Try.f49 (pRo ++ [1, 1, 0, 0])) a1 [] K = o := fun h => by
      rw [ev_then (c := cAt Try.f49 (pRo ++ [1, 1, 0, 0])) (b := cAt Try.f49 (pRo ++ [1, 1, 0, 0, 1])) rfl r2, ev_then (c := cAt Try.f49 (pRo ++ [1, 1, 0, 0, 1])) (b := cAt Try.f49 (pRo ++ [1, 1, 0, 0, 1, 1])) rfl r3, ev_then (c := cAt Try.f49 (pRo ++ [1, 1, 0, 0, 1, 1])) (b := cAt Try.f49 (pRo ++ [1, 1, 0, 0, 1, 1, 1])) rfl r4, ev_then (c := cAt Try.f49 (pRo ++ [1, 1, 0, 0, 1, 1, 1])) (b := cAt Try.f49 (pRo ++ [1, 1, 0, 0, 1, 1, 1, 1])) rfl r5, h]
    constructor
    · intro ha
      obtain ⟨a6, K6, r6, b2, b10, b11, b12, k6⟩ := q1 ha
      obtain ⟨a7, r7, c2, c10, c11, c12⟩ := ro_R11 (call := callR lf) (lf := lf) (env := a6) (H := K6) (i := i) (b12.trans (z12.trans (y12.trans (x12.trans (w12.trans (u12.trans e12)))))) (by omega)
      refine ⟨a7, K6, ?_, c2.trans (b2.trans (z2.trans (y2.trans (x2.trans (w2.trans u2))))), c10.trans (b10.trans (z10.trans (y10.trans (x10.trans (w10.trans u10))))), c11.trans (b11.trans (z11.trans (y11.trans (x11.trans (w11.trans u11))))), c12, k04.trans k6⟩
      have hb : evCode Try.prog (callR lf) lf 66 none (cAt Try.f49 (pRo ++ [1, 1, 0])) a1 [] K = some (.normal, a6, [], K6) := by
        rw [show cAt Try.f49 (pRo ++ [1, 1, 0]) = .block 1 (cAt Try.f49 (pRo ++ [1, 1, 0, 0])) from rfl, evCode_block, pre (o := some (.normal, a6, [], K6)) (by rw [show cAt Try.f49 (pRo ++ [1, 1, 0, 0, 1, 1, 1, 1]) = .block 2 (.loop (cAt Try.f49 pRi)) from rfl, evCode_block, evCode_loop, r6]; rfl)]
      rw [ev_then (c := cAt Try.f49 pRo) (b := cAt Try.f49 (pRo ++ [1])) rfl r1, ev_then (c := cAt Try.f49 (pRo ++ [1])) (b := cAt Try.f49 (pRo ++ [1, 1])) rfl r1c, ev_then (c := cAt Try.f49 (pRo ++ [1, 1])) (a := cAt Try.f49 (pRo ++ [1, 1, 0])) (b := cAt Try.f49 (pRo ++ [1, 1, 1])) rfl hb, r7]
    · intro ha
      obtain ⟨a6, K6, r6, k6⟩ := q2 ha
      refine ⟨a6, K6, hin (pre (by rw [show cAt Try.f49 (pRo ++ [1, 1, 0, 0, 1, 1, 1, 1]) = .block 2 (.loop (cAt Try.f49 pRi)) from rfl, evCode_block, evCode_loop, r6])) (by intro e; cases e) (by intro e; cases e), k04.trans k6⟩
  · obtain ⟨w, K4, c50, k4, _, _⟩ := p2 (by omega)
    obtain ⟨a3, r3, x2, x10, x11, x12, x5, x6⟩ := ro_R4 (call := callR lf) (lf := lf) (env := a2) w4 ld (callR_parts.trans c50)
    obtain ⟨a4, r4⟩ := (ro_R5 (call := callR lf) (lf := lf) (env := a3) (H := K4) x6 (hmust _ _)).2 rfl
    have hR : rightL d = false := by unfold rightL; rw [decide_eq_false hle]; rfl
    rw [hR]
    refine ⟨(fun h => by cases h), fun _ => ⟨a4, K4, hin ?_ (by intro e; cases e) (by intro e; cases e), (hk.trans k3).trans k4⟩⟩
    rw [ev_then (c := cAt Try.f49 (pRo ++ [1, 1, 0, 0])) (b := cAt Try.f49 (pRo ++ [1, 1, 0, 0, 1])) rfl r2, ev_then (c := cAt Try.f49 (pRo ++ [1, 1, 0, 0, 1])) (b := cAt Try.f49 (pRo ++ [1, 1, 0, 0, 1, 1])) rfl r3, ev_stop (c := cAt Try.f49 (pRo ++ [1, 1, 0, 0, 1, 1])) (a := cAt Try.f49 (pRo ++ [1, 1, 0, 0, 1, 1, 0])) (b := cAt Try.f49 (pRo ++ [1, 1, 0, 0, 1, 1, 1])) rfl r4 (by intro e; cases e)]

theorem ro_loop {lf : Nat} {H0 : Heap} {bt nb : Nat} {s0 : Value} {vs : List ValD} (hw0 : H0.Wf) (hvs : rdVals H0 s0 = some vs) (hn : vs.length ≤ 1000) (hlf : 1000 ≤ lf) (hsz : ∀ d ∈ vs, d.size ≤ 1073741824) (ht : H0.get bt = some (.cells true 28 (tabCells nb))) (hB : Boxes H0 nb) :
    ∀ (d i m : Nat) (env : Env) (K : Heap), d < m → vs.length = i + d → Kept H0 K none → env.val 2 = .pointer (some ⟨bt, 0, none⟩) → env.val 10 = s0 → env.val 11 = .int .i64 vs.length → env.val 12 = .int .i64 i →
    ((vs.drop i).all rightL = true → ∃ env' K', evLoop Try.prog (callR lf) lf 66 none (cAt Try.f49 pRo) m env [] K = some (.exit 0, env', [], K') ∧ Kept H0 K' none) ∧
    ((vs.drop i).all rightL = false → ∃ env' K', evLoop Try.prog (callR lf) lf 66 none (cAt Try.f49 pRo) m env [] K = some (.panic (.iface 28 (.int .i64 40)), env', [], K') ∧ Kept H0 K' none)
  | d, i, 0, env, K, hm, _, _, _, _, _, _ => by omega
  | 0, i, m + 1, env, K, hm, hd, hk, e2, e10, e11, e12 => by
    obtain ⟨env', he⟩ := ro_exit (call := callR lf) (lf := lf) (H := K) e11 e12 (by omega)
    simp only [evLoop_succ, he]
    rw [List.drop_eq_nil_of_le (by omega)]
    exact ⟨fun _ => ⟨env', K, rfl, hk⟩, fun h => by simp at h⟩
  | d + 1, i, m + 1, env, K, hm, hd, hk, e2, e10, e11, e12 => by
    have hx := List.getElem?_eq_getElem (l := vs) (i := i) (by omega)
    have hdr := List.drop_eq_getElem_cons (l := vs) (i := i) (by omega)
    obtain ⟨g1, g2⟩ := ro_step hw0 hvs hx hn hlf (hsz _ (List.getElem_mem (l := vs) (n := i) (by omega))) ht hB hk e2 e10 e11 e12
    rw [hdr, List.all_cons]
    cases h : rightL (vs[i]'(by omega)) with
    | true =>
      obtain ⟨env', K', he, u2, u10, u11, u12, hk'⟩ := g1 h
      have := ro_loop hw0 hvs hn hlf hsz ht hB d (i + 1) m env' K' (by omega) (by omega) hk' (u2.trans e2) (u10.trans e10) (u11.trans e11) u12
      simp only [evLoop_succ, he, Bool.true_and]
      exact this
    | false =>
      obtain ⟨env', K', he, hk'⟩ := g2 h
      simp only [evLoop_succ, he, Bool.false_and]
      exact ⟨(fun h => by cases h), fun _ => ⟨env', K', rfl, hk'⟩⟩

theorem tab_kept {H : Heap} (hw : H.Wf) : Kept H (tabHeap H) none ∧ Boxes (tabHeap H) (H.next + 1) := by
  have hb := boxes_at (H.push (.cells true 28 (List.replicate 28 .nilFunc)))
  have e : (H.push (.cells true 28 (List.replicate 28 .nilFunc))).next = H.next + 1 := rfl
  rw [e] at hb
  refine ⟨?_, ?_⟩
  · unfold tabHeap boxes
    exact ((((((((((Kept.refl hw none).push _).push _).push _).push _).push _).push _).push _).push _).push _).set (Nat.le_refl _) (by simp; omega) _
  · unfold tabHeap
    exact ⟨by rw [get_set_ne (by omega)]; exact hb.b0, by rw [get_set_ne (by omega)]; exact hb.b1, by rw [get_set_ne (by omega)]; exact hb.b2, by rw [get_set_ne (by omega)]; exact hb.b3, by rw [get_set_ne (by omega)]; exact hb.b4, by rw [get_set_ne (by omega)]; exact hb.b5, by rw [get_set_ne (by omega)]; exact hb.b6, by rw [get_set_ne (by omega)]; exact hb.b7⟩

/-- right. -/
theorem right_run {lf : Nat} {H : Heap} {s0 : Value} {vs : List ValD} (hw : H.Wf) (hvs : rdVals H s0 = some vs) (hn : vs.length ≤ 900) (hlf : 1000 ≤ lf) (hsz : ∀ d ∈ vs, d.size ≤ 1073741824) :
    (vs.all rightL = true → ∃ H', evFn Try.prog (callR lf) lf 49 [s0] H = some (.ret (.tuple #[]), H') ∧ Kept H H' none) ∧
    (vs.all rightL = false → ∃ H', evFn Try.prog (callR lf) lf 49 [s0] H = some (.pan (.iface 28 (.int .i64 40)), H') ∧ Kept H H' none) := by
  have c72 := callR_shapes (lf := lf) (H := H)
  obtain ⟨k1, hB⟩ := tab_kept hw
  generalize tabHeap H = H1 at *
  have k2 : Kept H1 ((H1.push (.cells true 28 (List.replicate 28 .nilFunc))).set H1.next (.cells true 28 (tabCells (H.next + 1)))) none := ((Kept.refl k1.wf none).push _).set (Nat.le_refl _) (by simp) _
  have ht : ((H1.push (.cells true 28 (List.replicate 28 .nilFunc))).set H1.next (.cells true 28 (tabCells (H.next + 1)))).get H1.next = some (.cells true 28 (tabCells (H.next + 1))) := get_set_self _ _ _
  have st : storeA Try.prog 92 (H1.push (.cells true 28 (List.replicate 28 .nilFunc))) H1.next 0 (.agg (tabCells (H.next + 1)).toArray) = some ((H1.push (.cells true 28 (List.replicate 28 .nilFunc))).set H1.next (.cells true 28 (tabCells (H.next + 1)))) := by
    have g := get_push_self H1 (.cells true 28 (List.replicate 28 Value.nilFunc))
    simp only [storeA, g, info92, size92, cells_agg]
    rw [if_pos ⟨rfl, by simp [tabCells], by kernel_rfl⟩]
    rfl
  generalize hH2 : (H1.push (.cells true 28 (List.replicate 28 .nilFunc))).set H1.next (.cells true 28 (tabCells (H.next + 1))) = H2 at *
  have k12 := k1.trans k2
  have hvs2 := rdVals_ext (k12.ext hw) hvs
  have hl := rdVals_len hvs2 23 Try.underlying23
  have oz : (List.replicate 28 Value.nilFunc).toArray.toList = List.replicate 28 Value.nilFunc := rfl
  have r0 : ∃ e, evCode Try.prog (callR lf) lf 66 none (cAt Try.f49 [0]) (envOf 0 [s0] .nil) [] H = some (.normal, e, [], H2) ∧ e.val 0 = s0 ∧ e.val 2 = .pointer (some ⟨H1.next, 0, none⟩) := by
    generalize callR lf = call at c72
    generalize hr : evCode Try.prog call lf 66 none (cAt Try.f49 [0]) (envOf 0 [s0] .nil) [] H = out
    simp [Try.f49, callA, c72, zero92] at hr
    simp [List.replicate] at st
    simp [st] at hr
    subst hr
    exact ⟨_, rfl, by simp, by simp⟩
  obtain ⟨e, r0, v0, v2⟩ := r0
  have r1 : ∃ e', evCode Try.prog (callR lf) lf 66 none (cAt Try.f49 [1, 0]) e [] H2 = some (.normal, e', [], H2) ∧ e'.val 2 = e.val 2 ∧ e'.val 10 = s0 ∧ e'.val 11 = .int .i64 vs.length ∧ e'.val 12 = .int .i64 (0 : Nat) := by
    generalize hr : evCode Try.prog (callR lf) lf 66 none (cAt Try.f49 [1, 0]) e [] H2 = out
    simp [Try.f49, v0, hl] at hr
    subst hr
    exact ⟨_, rfl, by simp, by simp, by simp, by simp⟩
  obtain ⟨e', r1, w2, w10, w11, w12⟩ := r1
  obtain ⟨g1, g2⟩ := ro_loop (lf := lf) k2.wf hvs2 (by omega) hlf hsz ht (hB.ext (k2.ext k1.wf)) vs.length 0 lf e' H2 (by omega) (by omega) (Kept.refl k2.wf none) (w2.trans v2) w10 w11 w12
  simp only [List.drop_zero] at g1 g2
  have hfn : ∀ {out}, evCode Try.prog (callR lf) lf 66 none (cAt Try.f49 [1, 1]) e' [] H2 = out → evFn Try.prog (callR lf) lf 49 [s0] H = fnEnd Try.prog (callR lf) lf Try.f49 out := fun h => by
    rw [evFn_at Try.func49 body49 (by simp), Try.ntmps49, ev_then (c := cAt Try.f49 []) (b := cAt Try.f49 [1]) rfl r0, ev_then (c := cAt Try.f49 [1]) (b := cAt Try.f49 [1, 1]) rfl r1, h]
  constructor
  · intro ha
    obtain ⟨env', K', r, k3⟩ := g1 ha
    refine ⟨K', (hfn (out := some (.normal, env', [], K')) (by rw [show cAt Try.f49 [1, 1] = .block 0 (.loop (cAt Try.f49 pRo)) from rfl, evCode_block, evCode_loop, r]; rfl)).trans ?_, k12.trans k3⟩
    simp [fnEnd, Try.f49]
  · intro ha
    obtain ⟨env', K', r, k3⟩ := g2 ha
    refine ⟨K', (hfn (out := some (.panic (.iface 28 (.int .i64 40)), env', [], K')) (by rw [show cAt Try.f49 [1, 1] = .block 0 (.loop (cAt Try.f49 pRo)) from rfl, evCode_block, evCode_loop, r])).trans ?_, k12.trans k3⟩
    simp [fnEnd, Try.f49]
end Go.Proofs.Ytgopamojnoefiaa

namespace Go.Proofs.Ytgopamojnoefiaa
open Go Go.Abs
set_option maxRecDepth 100000
set_option linter.unusedSimpArgs false
set_option linter.unusedVariables false

/-! ### caught (47), Check (12) -/
theorem caught_pan {call : CallF} {lf : Nat} {H H1 : Heap} {a g : Nat} {cap : List Value} {x r : Value} {i : Int} (hb : bodied Try.prog g = true) (hc : call (.fn g cap) H = some (.ret r, H1)) (ha : H1.get a = some (.cells true 1 [x])) :
    evDef Try.prog call lf 47 [.pointer (some ⟨a, 0, none⟩), .func (.func g) #[] cap.toArray] (.pan (.iface 28 (.int .i64 i))) H = some (.recd (.iface 28 (.int .i64 i)), H1.set a (.cells true 1 [.int .i64 i])) := by
  have s1 : storeA Try.prog 28 H1 a 0 (.int .i64 i) = some (H1.set a (.cells true 1 [.int .i64 i])) := by simp [storeA, ha, putL]
  generalize hr : evDef Try.prog call lf 47 [.pointer (some ⟨a, 0, none⟩), .func (.func g) #[] cap.toArray] (.pan (.iface 28 (.int .i64 i))) H = out
  simp [Try.f47, s1, eqA, typeAssertA, callA, hb, hc] at hr
  exact hr.symm
theorem caught_ret {call : CallF} {lf : Nat} {H : Heap} {a g : Nat} {cap : List Value} :
    evDef Try.prog call lf 47 [.pointer (some ⟨a, 0, none⟩), .func (.func g) #[] cap.toArray] .ret H = some (.ret, H) := by
  generalize hr : evDef Try.prog call lf 47 [.pointer (some ⟨a, 0, none⟩), .func (.func g) #[] cap.toArray] .ret H = out
  simp [Try.f47] at hr
  exact hr.symm
theorem skip_run {call : CallF} {lf : Nat} {H : Heap} : evFn Try.prog call lf 48 [] H = some (.ret (.tuple #[]), H) := by
  simp [Try.f48]

theorem val_build {H : Heap} {k n : Int} {s : Value} : buildSliceA Try.prog 23 1 [(0, .agg #[.int .i64 k, .int .i64 n, s])] H = some (.slice (some ⟨H.next, 0, none⟩) 1 1, H.push (.cells true 3 [.int .i64 k, .int .i64 n, s])) := by kernel_rfl
theorem val_row {H : Heap} {d : ValD} {s : Value} (hw : H.Wf) (hv : VAt H d [.int .i64 d.kind, .int .i64 d.num, s]) : rdVals (H.push (.cells true 3 [.int .i64 d.kind, .int .i64 d.num, s])) (.slice (some ⟨H.next, 0, none⟩) 1 1) = some [d] := by
  refine rdVals_of (xs := [[.int .i64 d.kind, .int .i64 d.num, s]]) ⟨?_, rfl, fun i x v hx hvv => ?_, .inl (by rw [BIG_val]; omega)⟩
  · simp only [rdS, get_push_self]
    rw [if_pos ⟨by decide, by simp⟩]
    simp [chunks]
  · cases i with
    | zero => simp at hx hvv; subst hx; subst hvv; exact hv.ext (Ext.push hw _)
    | succ i => simp at hx

theorem ck_results {env : Env} {H : Heap} {a : Nat} {x : Int} (h2 : env.val 2 = .pointer (some ⟨a, 0, none⟩)) (ha : H.get a = some (.cells true 1 [.int .i64 x])) : resultsA Try.prog Try.f12 env H = some (.int .i64 x) := by
  have l1 : loadA Try.prog 28 H a 0 = some (.int .i64 x) := by simp [loadA, ha]
  simp [Try.f12, h2, l1]

def checkL (d : ValD) : Int := if rightL d = true then 0 else 40
theorem check_run {lf : Nat} {H : Heap} {v : Value} {d : ValD} (hw : H.Wf) (hv : rdVal H v = some d) (hlf : 1000 ≤ lf) (hsz : d.size ≤ 1073741824) :
    ∃ H', evFn Try.prog (ev1 Try.prog (callR lf) lf) lf 12 [v] H = some (.ret (.int .i64 (checkL d)), H') ∧ Kept H H' none := by
  obtain ⟨s, xs, rfl, h1, h2, h3, hva, sc, os, _⟩ := rdVal_cells hv
  have hcall : ∀ args K, ev1 Try.prog (callR lf) lf (.fn 49 args) K = evFn Try.prog (callR lf) lf 49 args K := fun args K => rfl
  have hskip : ∀ K, ev1 Try.prog (callR lf) lf (.fn 48 []) K = some (.ret (.tuple #[]), K) := fun K => skip_run (call := callR lf) (lf := lf)
  generalize ev1 Try.prog (callR lf) lf = call at *
  have r0 : ∃ e, evCode Try.prog call lf 6 none (cAt Try.f12 [0]) (envOf 0 [.agg #[.int .i64 d.kind, .int .i64 d.num, s]] .nil) [] H = some (.normal, e, [], (H.push (.cells true 3 [.int .i64 d.kind, .int .i64 d.num, s])).push (.cells true 1 [.int .i64 0])) ∧ e.val 1 = .pointer (some ⟨H.next, 0, none⟩) ∧ e.val 2 = .pointer (some ⟨H.next + 1, 0, none⟩) := by
    generalize hr : evCode Try.prog call lf 6 none (cAt Try.f12 [0]) (envOf 0 [.agg #[.int .i64 d.kind, .int .i64 d.num, s]] .nil) [] H = out
    simp [Try.f12, os] at hr
    subst hr
    exact ⟨_, rfl, by simp, by simp⟩
  obtain ⟨e, r0, v1, v2⟩ := r0
  have k1 := ((Kept.refl hw none).push (.cells true 3 [.int .i64 d.kind, .int .i64 d.num, s])).push (.cells true 1 [.int .i64 0])
  have g1 : ((H.push (.cells true 3 [.int .i64 d.kind, .int .i64 d.num, s])).push (.cells true 1 [.int .i64 0])).get H.next = some (.cells true 3 [.int .i64 d.kind, .int .i64 d.num, s]) := by rw [get_push_ne (by simp)]; exact get_push_self _ _
  have g2 : ((H.push (.cells true 3 [.int .i64 d.kind, .int .i64 d.num, s])).push (.cells true 1 [.int .i64 0])).get (H.next + 1) = some (.cells true 1 [.int .i64 0]) := get_push_self (H.push _) _
  have n1 : ((H.push (.cells true 3 [.int .i64 d.kind, .int .i64 d.num, s])).push (.cells true 1 [.int .i64 0])).next = H.next + 2 := rfl
  generalize (H.push (.cells true 3 [.int .i64 d.kind, .int .i64 d.num, s])).push (.cells true 1 [.int .i64 0]) = H1 at *
  have r1 : evCode Try.prog call lf 6 none (cAt Try.f12 [1, 0]) e [] H1 = some (.normal, e, [.fn 47 [.pointer (some ⟨H.next + 1, 0, none⟩), .func (.func 48) #[] #[]]], H1) := by
    simp [Try.f12, v2]
  have ld : loadA Try.prog 25 H1 H.next 0 = some (.agg #[.int .i64 d.kind, .int .i64 d.num, s]) := by simp [loadA, g1]
  have bs := val_build (H := H1) (k := d.kind) (n := d.num) (s := s)
  have k2 := (Kept.refl k1.wf none).push (.cells true 3 [.int .i64 d.kind, .int .i64 d.num, s])
  have hrow := val_row k1.wf (hva.ext (k1.ext hw))
  obtain ⟨q1, q2⟩ := right_run (lf := lf) k2.wf hrow (by simp) hlf (by intro x hx; simp at hx; subst hx; exact hsz)
  simp only [List.all_cons, List.all_nil, Bool.and_true] at q1 q2
  have hstart : ∀ out, evCode Try.prog call lf 6 none (cAt Try.f12 [1, 1]) e [.fn 47 [.pointer (some ⟨H.next + 1, 0, none⟩), .func (.func 48) #[] #[]]] H1 = out → evFn Try.prog call lf 12 [.agg #[.int .i64 d.kind, .int .i64 d.num, s]] H = fnEnd Try.prog call lf Try.f12 out := by
    intro out h
    rw [evFn_at Try.func12 body12 (by simp), Try.ntmps12, ev_then (c := cAt Try.f12 []) (b := cAt Try.f12 [1]) rfl r0, ev_then (c := cAt Try.f12 [1]) (b := cAt Try.f12 [1, 1]) rfl r1, h]
  cases hR : rightL d with
  | true =>
    obtain ⟨H3, c49, k3⟩ := q1 hR
    have c49' := (hcall _ _).trans c49
    have g23 := (k2.trans k3).of_get k1.wf g2 (by simp)
    have st : storeA Try.prog 28 H3 (H.next + 1) 0 (.int .i64 0) = some (H3.set (H.next + 1) (.cells true 1 [.int .i64 0])) := by simp [storeA, g23, putL]
    have r2 : ∃ e', evCode Try.prog call lf 6 none (cAt Try.f12 [1, 1]) e [.fn 47 [.pointer (some ⟨H.next + 1, 0, none⟩), .func (.func 48) #[] #[]]] H1 = some (.ret, e', [.fn 47 [.pointer (some ⟨H.next + 1, 0, none⟩), .func (.func 48) #[] #[]]], H3.set (H.next + 1) (.cells true 1 [.int .i64 0])) ∧ e'.val 2 = e.val 2 := by
      generalize hr : evCode Try.prog call lf 6 none (cAt Try.f12 [1, 1]) e [.fn 47 [.pointer (some ⟨H.next + 1, 0, none⟩), .func (.func 48) #[] #[]]] H1 = out
      simp [Try.f12, v1, v2, ld, bs, callA, c49', st] at hr
      subst hr
      exact ⟨_, rfl, by simp [v2]⟩
    obtain ⟨e', r2, w2⟩ := r2
    have hl3 := k3.wf.lt g23
    refine ⟨H3.set (H.next + 1) (.cells true 1 [.int .i64 0]), (hstart _ r2).trans ?_, ((k1.trans k2).trans k3).set (by omega) hl3 _⟩
    simp only [fnEnd, evLeave, caught_ret (cap := []), PM.settle]
    rw [ck_results (w2.trans v2) (get_set_self _ _ _)]
    simp [checkL, hR]
  | false =>
    obtain ⟨H3, c49, k3⟩ := q2 hR
    have c49' := (hcall _ _).trans c49
    have g23 := (k2.trans k3).of_get k1.wf g2 (by simp)
    have r2 : ∃ e', evCode Try.prog call lf 6 none (cAt Try.f12 [1, 1]) e [.fn 47 [.pointer (some ⟨H.next + 1, 0, none⟩), .func (.func 48) #[] #[]]] H1 = some (.panic (.iface 28 (.int .i64 40)), e', [.fn 47 [.pointer (some ⟨H.next + 1, 0, none⟩), .func (.func 48) #[] #[]]], H3) ∧ e'.val 2 = e.val 2 := by
      generalize hr : evCode Try.prog call lf 6 none (cAt Try.f12 [1, 1]) e [.fn 47 [.pointer (some ⟨H.next + 1, 0, none⟩), .func (.func 48) #[] #[]]] H1 = out
      simp [Try.f12, v1, v2, ld, bs, callA, c49'] at hr
      subst hr
      exact ⟨_, rfl, by simp [v2]⟩
    obtain ⟨e', r2, w2⟩ := r2
    have hl3 := k3.wf.lt g23
    have hcp := caught_pan (call := call) (lf := lf) (g := 48) (cap := []) (i := 40) bodied48 (hskip H3) g23
    refine ⟨H3.set (H.next + 1) (.cells true 1 [.int .i64 40]), (hstart _ r2).trans ?_, ((k1.trans k2).trans k3).set (by omega) hl3 _⟩
    simp only [fnEnd, evLeave]
    rw [show (#[] : Array Value) = ([] : List Value).toArray from rfl, hcp]
    simp only [PM.settle, evLeave]
    rw [ck_results (w2.trans v2) (get_set_self _ _ _)]
    simp [checkL, hR]

noncomputable def checkC : Contract Try.prog := Contract.plain 12
  (fun args H => match args with
    | [v] => match rdVal H v with
      | some d => if d.size ≤ 1073741824 then some (.ret (.int .i64 (checkL d))) else none
      | none => none
    | _ => none) (by
    intro args H res hw hr
    split at hr
    · rename_i v
      split at hr
      · rename_i d hd
        split at hr
        · rename_i hb
          simp only [Option.some.injEq] at hr
          subst hr
          obtain ⟨H', e, k⟩ := check_run (lf := 1000) hw hd (by omega) hb
          exact ⟨rfl, _, H', ev1_sound (callR_ok 1000), 1000, e, k.ext hw⟩
        · cases hr
      · cases hr
    · cases hr)
theorem check_hit {cs : List (Contract Try.prog)} {H : Heap} {v : Value} {d : ValD} (h : rdVal H v = some d) (hb : d.size ≤ 1073741824) : callOf (checkC :: cs) (.fn 12 [v]) H = some (.ret (.int .i64 (checkL d)), H) :=
  callOf_hit rfl (by simp [checkC, Contract.plain, h, hb])

/-! ### Size (13), IsEvent (15) -/
def sizeL (d : ValD) : Int := if (preC 0 d).length ≤ 256 then ((preC 0 d).length : Int) else 257
noncomputable def sizeC : Contract Try.prog := Contract.plain 13
  (fun args H => match args with
    | [v] => match rdVal H v with
      | some d => some (.ret (.int .i64 (sizeL d)))
      | none => none
    | _ => none) (by
    intro args H res hw hr
    split at hr
    · rename_i v
      split at hr
      · rename_i d hd
        simp only [Option.some.injEq] at hr
        subst hr
        obtain ⟨s, xs, rfl, h1, h2, h3, hva, sc, os, _⟩ := rdVal_cells hd
        have k1 := (Kept.refl hw none).push (.cells true 3 [.int .i64 d.kind, .int .i64 d.num, s])
        have ld : loadA Try.prog 25 (H.push (.cells true 3 [.int .i64 d.kind, .int .i64 d.num, s])) H.next 0 = some (.agg #[.int .i64 d.kind, .int .i64 d.num, s]) := by simp [loadA, get_push_self]
        have hd1 := rdVal_ext (k1.ext hw) hd
        obtain ⟨p1, p2⟩ := parts_run (lf := 300) k1.wf hd1 (by omega)
        have hc : ∀ args K, ev1 Try.prog (callP 300) 300 (.fn 50 args) K = evFn Try.prog (callP 300) 300 50 args K := fun _ _ => rfl
        by_cases hle : (preC 0 d).length ≤ 256
        · obtain ⟨w, H', ps, c50, k2, hrow, hps⟩ := p1 hle
          have c50' := (hc _ _).trans c50
          have hl := len_of (H' := H') (P := Try.prog) (t := 66) hrow.rd Try.underlying66
          rw [hps.1] at hl
          refine ⟨rfl, ev1 Try.prog (callP 300) 300, H', ev1_sound (callP_ok 300), 0, ?_, (k1.trans k2).ext hw⟩
          generalize ev1 Try.prog (callP 300) 300 = call at c50'
          simp [Try.f13, os, ld, callA, c50', hl, sizeL, hle]
        · obtain ⟨w, H', c50, k2, _, _⟩ := p2 (by omega)
          have c50' := (hc _ _).trans c50
          refine ⟨rfl, ev1 Try.prog (callP 300) 300, H', ev1_sound (callP_ok 300), 0, ?_, (k1.trans k2).ext hw⟩
          generalize ev1 Try.prog (callP 300) 300 = call at c50'
          simp [Try.f13, os, ld, callA, c50', sizeL, hle]
      · cases hr
    · cases hr)
theorem size_hit {cs : List (Contract Try.prog)} {H : Heap} {v : Value} {d : ValD} (h : rdVal H v = some d) : callOf (sizeC :: cs) (.fn 13 [v]) H = some (.ret (.int .i64 (sizeL d)), H) :=
  callOf_hit rfl (by simp [sizeC, Contract.plain, h])
def isEventL (d : ValD) : Bool := isEv d.kind && rightL d
noncomputable def isEventC : Contract Try.prog := Contract.plain 15
  (fun args H => match args with
    | [v] => match rdVal H v with
      | some d => if d.size ≤ 1073741824 then some (.ret (.bool (isEventL d))) else none
      | none => none
    | _ => none) (by
    intro args H res hw hr
    split at hr
    · rename_i v
      split at hr
      · rename_i d hd
        split at hr
        · rename_i hb
          simp only [Option.some.injEq] at hr
          subst hr
          obtain ⟨s, xs, rfl, h1, h2, h3, hva, sc, os, _⟩ := rdVal_cells hd
          have k1 := (Kept.refl hw none).push (.cells true 3 [.int .i64 d.kind, .int .i64 d.num, s])
          have ld : loadA Try.prog 25 (H.push (.cells true 3 [.int .i64 d.kind, .int .i64 d.num, s])) H.next 0 = some (.agg #[.int .i64 d.kind, .int .i64 d.num, s]) := by simp [loadA, get_push_self]
          have hd1 := rdVal_ext (k1.ext hw) hd
          have c1 := event_hit (cs := [checkC]) hd1
          have c2 : callOf [eventC, checkC] (.fn 12 [.agg #[.int .i64 d.kind, .int .i64 d.num, s]]) (H.push (.cells true 3 [.int .i64 d.kind, .int .i64 d.num, s])) = _ := (callOf_miss (by decide)).trans (check_hit (cs := []) hd1 hb)
          refine ⟨rfl, callOf [eventC, checkC], H.push (.cells true 3 [.int .i64 d.kind, .int .i64 d.num, s]), callOf_ok _, 0, ?_, k1.ext hw⟩
          generalize callOf [eventC, checkC] = call at c1 c2
          cases he : isEv d.kind with
          | false =>
            rw [he] at c1
            simp [undef, Try.f15, os, ld, callA, c1, isEventL, he]
          | true =>
            rw [he] at c1
            cases hR : rightL d with
            | true =>
              have hk : checkL d = 0 := by simp [checkL, hR]
              rw [hk] at c2
              simp [Try.f15, os, ld, callA, c1, c2, isEventL, he, hR]
            | false =>
              have hk : checkL d = 40 := by simp [checkL, hR]
              rw [hk] at c2
              simp [Try.f15, os, ld, callA, c1, c2, isEventL, he, hR]
        · cases hr
      · cases hr
    · cases hr)
theorem isEvent_hit {cs : List (Contract Try.prog)} {H : Heap} {v : Value} {d : ValD} (h : rdVal H v = some d) (hb : d.size ≤ 1073741824) : callOf (isEventC :: cs) (.fn 15 [v]) H = some (.ret (.bool (isEventL d)), H) :=
  callOf_hit rfl (by simp [isEventC, Contract.plain, h, hb])
end Go.Proofs.Ytgopamojnoefiaa
