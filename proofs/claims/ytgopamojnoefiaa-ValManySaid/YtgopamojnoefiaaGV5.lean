/-
  A part of a proof: texts laid behind one another (V33, V34, V35, V36, V37).
-/
import Derived.Test.YtgopamojnoefiaaGV4
namespace Go.Proofs.Ytgopamojnoefiaa
open Go Go.Abs
set_option maxRecDepth 100000
set_option linter.unusedSimpArgs false
set_option linter.unusedVariables false

/-! ### Copy (21) -/
def copyL (d : ValD) : ValD := if d.size ≤ 256 then d else .mk 0 0 []
theorem copyL_size (d : ValD) : (copyL d).size ≤ 256 := by
  unfold copyL
  split
  · assumption
  · simp [ValD.size, ValD.sizes]
noncomputable def callCy : CallF := orC (callOf [sizeC]) inCp
theorem callCy_ok : CallOk Try.prog callCy := orC_ok (callOf_ok _) inCp_ok
theorem copy_run {lf : Nat} {H : Heap} {v : Value} {d : ValD} (hw : H.Wf) (hv : rdVal H v = some d) :
    ∃ s' H', evFn Try.prog callCy lf 21 [v] H = some (.ret (.agg #[.int .i64 (copyL d).kind, .int .i64 (copyL d).num, s']), H') ∧ Kept H H' none ∧ VOwn H.next H' (copyL d) [.int .i64 (copyL d).kind, .int .i64 (copyL d).num, s'] := by
  obtain ⟨s, xs, rfl, h1, h2, h3, hva, sc, os, _⟩ := rdVal_cells hv
  have h56 : ∀ (K : Heap) (x : Value), K.Wf → d.size ≤ 256 → rdVal K x = some d → ∃ s' K', callCy (.fn 56 [x]) K = some (.ret (.agg #[.int .i64 d.kind, .int .i64 d.num, s']), K') ∧ Kept K K' none ∧ VOwn K.next K' d [.int .i64 d.kind, .int .i64 d.num, s'] := by
    intro K x hwK hs hx
    unfold callCy
    rw [orC_miss (by rw [callOf_miss (by decide)]; rfl)]
    exact copied_run 256 K x d hs (by omega) (by omega) hwK hx
  have h13 : ∀ (K : Heap) (x : Value), rdVal K x = some d → callCy (.fn 13 [x]) K = some (.ret (.int .i64 (refSize d)), K) := fun K x hx => orC_hit (by rw [size_hit hx, sizeL_eq])
  generalize callCy = call at h56 h13
  have k1 := ((Kept.refl hw none).push (.cells true 3 [.int .i64 d.kind, .int .i64 d.num, s])).push (.cells true 3 [.int .i64 0, .int .i64 0, .slice none 0 0])
  have g1 : ((H.push (.cells true 3 [.int .i64 d.kind, .int .i64 d.num, s])).push (.cells true 3 [.int .i64 0, .int .i64 0, .slice none 0 0])).get H.next = some (.cells true 3 [.int .i64 d.kind, .int .i64 d.num, s]) := by rw [get_push_ne (by simp)]; exact get_push_self _ _
  have g2 : ((H.push (.cells true 3 [.int .i64 d.kind, .int .i64 d.num, s])).push (.cells true 3 [.int .i64 0, .int .i64 0, .slice none 0 0])).get (H.next + 1) = some (.cells true 3 [.int .i64 0, .int .i64 0, .slice none 0 0]) := get_push_self (H.push _) _
  have n1 : ((H.push (.cells true 3 [.int .i64 d.kind, .int .i64 d.num, s])).push (.cells true 3 [.int .i64 0, .int .i64 0, .slice none 0 0])).next = H.next + 2 := rfl
  generalize hH1 : (H.push (.cells true 3 [.int .i64 d.kind, .int .i64 d.num, s])).push (.cells true 3 [.int .i64 0, .int .i64 0, .slice none 0 0]) = H1 at *
  have ld1 : loadA Try.prog 25 H1 H.next 0 = some (.agg #[.int .i64 d.kind, .int .i64 d.num, s]) := by simp [loadA, g1]
  have hd1 := rdVal_of (hva.ext (k1.ext hw))
  have c13 := h13 H1 _ hd1
  generalize hr : evFn Try.prog call lf 21 [.agg #[.int .i64 d.kind, .int .i64 d.num, s]] H = out
  by_cases hle : d.size ≤ 256
  · have hM : copyL d = d := by unfold copyL; rw [if_pos hle]
    rw [hM]
    have hr1 : refSize d ≤ 256 := by unfold refSize; omega
    have hr2 : ¬ (256 : Int) < refSize d := by omega
    obtain ⟨s', H2, c56, k2, hown⟩ := h56 H1 _ k1.wf hle hd1
    obtain ⟨s2, xs2, e2, hro, _⟩ := hown.inv
    simp only [List.cons.injEq, true_and, and_true] at e2
    subst e2
    obtain ⟨sc', os', _⟩ := hro.one
    have g22 := k2.of_get k1.wf g2 (by simp)
    have st : storeA Try.prog 25 H2 (H.next + 1) 0 (.agg #[.int .i64 d.kind, .int .i64 d.num, s']) = some (H2.set (H.next + 1) (.cells true 3 [.int .i64 d.kind, .int .i64 d.num, s'])) := by simp [storeA, g22, os', putL]
    have l6 : loadA Try.prog 25 (H2.set (H.next + 1) (.cells true 3 [.int .i64 d.kind, .int .i64 d.num, s'])) (H.next + 1) 0 = some (.agg #[.int .i64 d.kind, .int .i64 d.num, s']) := by simp [loadA, get_set_self]
    have hl := k2.wf.lt g22
    refine ⟨s', H2.set (H.next + 1) (.cells true 3 [.int .i64 d.kind, .int .i64 d.num, s']), ?_, (k1.trans k2).set (by omega) hl _, (hown.from (SameFrom.set (by omega) _)).low (by omega)⟩
    generalize refSize d = n at *
    simp [Try.f21, os, hH1, ld1, callA, c13, hr1, hr2, c56, st, l6] at hr
    exact hr.symm
  · have hM : copyL d = .mk 0 0 [] := by unfold copyL; rw [if_neg hle]
    rw [hM]
    have hr1 : ¬ refSize d ≤ 256 := by unfold refSize; omega
    have hr2 : (256 : Int) < refSize d := by omega
    have st : storeA Try.prog 25 H1 (H.next + 1) 0 (.agg #[.int .i64 0, .int .i64 0, .slice none 0 0]) = some (H1.set (H.next + 1) (.cells true 3 [.int .i64 0, .int .i64 0, .slice none 0 0])) := by simp [storeA, g2, putL]
    have l6 : loadA Try.prog 25 (H1.set (H.next + 1) (.cells true 3 [.int .i64 0, .int .i64 0, .slice none 0 0])) (H.next + 1) 0 = some (.agg #[.int .i64 0, .int .i64 0, .slice none 0 0]) := by simp [loadA, get_set_self]
    have hl := k1.wf.lt g2
    refine ⟨.slice none 0 0, H1.set (H.next + 1) (.cells true 3 [.int .i64 0, .int .i64 0, .slice none 0 0]), ?_, k1.set (by omega) hl _, .of (.inl ⟨rfl, rfl⟩) rfl (fun i x v a => by simp at a)⟩
    generalize refSize d = n at *
    simp [Try.f21, os, hH1, ld1, callA, c13, hr1, hr2, built25z, st, l6] at hr
    exact hr.symm
end Go.Proofs.Ytgopamojnoefiaa

namespace Go.Proofs.Ytgopamojnoefiaa
open Go Go.Abs
set_option maxRecDepth 100000
set_option linter.unusedSimpArgs false
set_option linter.unusedVariables false

/-! ### Same: two parts (59), two rows of parts (58) -/
def partEq (a b : ValD) : Bool := decide (a.kind = b.kind) && (decide (a.num = b.num) && decide (a.own.length = b.own.length))
theorem same1_run {call : CallF} {lf : Nat} {H : Heap} {a b : ValD} {s r : Value} {dp dq : Int} (hw : H.Wf) (hva : VAt H a [.int .i64 a.kind, .int .i64 a.num, s]) (hvb : VAt H b [.int .i64 b.kind, .int .i64 b.num, r]) :
    ∃ H', evFn Try.prog call lf 59 [.agg #[.int .i64 a.kind, .int .i64 a.num, s, .int .i64 dp], .agg #[.int .i64 b.kind, .int .i64 b.num, r, .int .i64 dq]] H = some (.ret (.bool (partEq a b)), H') ∧ Kept H H' none := by
  obtain ⟨s0, e0, sc, os, _⟩ := hva.one
  simp only [List.cons.injEq, true_and, and_true] at e0
  subst e0
  obtain ⟨r0, e0, rc, or, _⟩ := hvb.one
  simp only [List.cons.injEq, true_and, and_true] at e0
  subst e0
  have k1 := ((Kept.refl hw none).push (.cells true 4 [.int .i64 a.kind, .int .i64 a.num, s, .int .i64 dp])).push (.cells true 4 [.int .i64 b.kind, .int .i64 b.num, r, .int .i64 dq])
  have q1 : ((H.push (.cells true 4 [.int .i64 a.kind, .int .i64 a.num, s, .int .i64 dp])).push (.cells true 4 [.int .i64 b.kind, .int .i64 b.num, r, .int .i64 dq])).get H.next = some (.cells true 4 [.int .i64 a.kind, .int .i64 a.num, s, .int .i64 dp]) := by rw [get_push_ne (by simp)]; exact get_push_self _ _
  have q2 : ((H.push (.cells true 4 [.int .i64 a.kind, .int .i64 a.num, s, .int .i64 dp])).push (.cells true 4 [.int .i64 b.kind, .int .i64 b.num, r, .int .i64 dq])).get (H.next + 1) = some (.cells true 4 [.int .i64 b.kind, .int .i64 b.num, r, .int .i64 dq]) := get_push_self (H.push _) _
  generalize hH1 : (H.push (.cells true 4 [.int .i64 a.kind, .int .i64 a.num, s, .int .i64 dp])).push (.cells true 4 [.int .i64 b.kind, .int .i64 b.num, r, .int .i64 dq]) = H1 at *
  obtain ⟨_, ys, ey, hy1, hy2, hy3, hyq⟩ := hva.inv
  simp only [List.cons.injEq, true_and, and_true] at ey
  subst ey
  obtain ⟨_, zs, ez, hz1, hz2, hz3, hzq⟩ := hvb.inv
  simp only [List.cons.injEq, true_and, and_true] at ez
  subst ez
  have vs : rdVals H1 s = some a.own := rdVals_ext (k1.ext hw) (rdVals_of ⟨hy1, hy2, hy3, hyq⟩)
  have vr : rdVals H1 r = some b.own := rdVals_ext (k1.ext hw) (rdVals_of ⟨hz1, hz2, hz3, hzq⟩)
  have la0 : loadA Try.prog 22 H1 H.next 0 = some (.int .i64 a.kind) := by simp [loadA, q1]
  have la1 : loadA Try.prog 2 H1 H.next 1 = some (.int .i64 a.num) := by simp [loadA, q1]
  have la2 : loadA Try.prog 23 H1 H.next 2 = some s := by simp [loadA, q1, sc]
  have lb0 : loadA Try.prog 22 H1 (H.next + 1) 0 = some (.int .i64 b.kind) := by simp [loadA, q2]
  have lb1 : loadA Try.prog 2 H1 (H.next + 1) 1 = some (.int .i64 b.num) := by simp [loadA, q2]
  have lb2 : loadA Try.prog 23 H1 (H.next + 1) 2 = some r := by simp [loadA, q2, rc]
  have hla := rdVals_len vs 23 Try.underlying23
  have hlb := rdVals_len vr 23 Try.underlying23
  refine ⟨H1, ?_, k1⟩
  unfold partEq
  generalize hr : evFn Try.prog call lf 59 [.agg #[.int .i64 a.kind, .int .i64 a.num, s, .int .i64 dp], .agg #[.int .i64 b.kind, .int .i64 b.num, r, .int .i64 dq]] H = out
  by_cases hk : a.kind = b.kind
  · by_cases hnm : a.num = b.num
    · by_cases hl : a.own.length = b.own.length
      · rw [decide_eq_true hk, decide_eq_true hnm, decide_eq_true hl]
        rw [← hk] at lb0
        rw [← hnm] at lb1
        rw [← hl] at hlb
        simp [undef, Try.f59, eqA, Try.underlying22, Try.underlying2, os, or, hH1, la0, la1, la2, lb0, lb1, lb2, hla, hlb] at hr
        simpa using hr.symm
      · have hl' : ¬ ((a.own.length : Int) = (b.own.length : Int)) := by omega
        rw [decide_eq_false hl]
        rw [← hk] at lb0
        rw [← hnm] at lb1
        have hlb' : ((a.own.length : Int) == (b.own.length : Int)) = false := by simp only [beq_eq_false_iff_ne, ne_eq]; exact hl'
        simp [undef, Try.f59, eqA, Try.underlying22, Try.underlying2, os, or, hH1, la0, la1, la2, lb0, lb1, lb2, hla, hlb, hl, hl', hlb', beqF] at hr
        simpa using hr.symm
    · rw [decide_eq_false hnm]
      rw [← hk] at lb0
      simp [undef, Try.f59, eqA, Try.underlying22, Try.underlying2, os, or, hH1, la0, la1, la2, lb0, lb1, lb2, hnm, beqF] at hr
      simpa using hr.symm
  · rw [decide_eq_false hk]
    simp [undef, Try.f59, eqA, Try.underlying22, Try.underlying2, os, or, hH1, la0, la1, la2, lb0, lb1, lb2, hk, beqF] at hr
    simpa using hr.symm

def all2 : List (Nat × ValD) → List (Nat × ValD) → Bool
  | [], _ => true
  | a :: l, r => match r with
    | [] => true
    | b :: r => partEq a.2 b.2 && all2 l r
def pEq : List Nat := [1, 1, 0, 1, 0, 0]
theorem eq_exit {call : CallF} {lf : Nat} {env : Env} {H : Heap} {i n : Nat} (e16 : env.val 16 = .int .i64 n) (e17 : env.val 17 = .int .i64 i) (hi : n ≤ i) :
    ∃ env', evCode Try.prog call lf 32 none (cAt Try.f58 pEq) env [] H = some (.exit 0, env', [], H) := by
  have c1 : ¬ (i : Int) < (n : Int) := by omega
  generalize hr : evCode Try.prog call lf 32 none (cAt Try.f58 pEq) env [] H = out
  simp [pEq, Try.f58, e16, e17, c1, hi] at hr
  subst hr
  exact ⟨_, rfl⟩
theorem eq_step {call : CallF} {lf : Nat} {env : Env} {H H' : Heap} {i n : Nat} {w1 w2 s r : Value} {ps qs : List (List Value)} {a b : ValD} {dp dq : Int} {eq : Bool} (hw : H.Wf) (e1 : env.val 1 = w2) (e2 : env.val 2 = .func (.func 59) #[] #[]) (e15 : env.val 15 = w1) (e16 : env.val 16 = .int .i64 n) (e17 : env.val 17 = .int .i64 i) (hi : i < n) (hn : n ≤ 1000)
    (hp : rdS H 4 w1 = some ps) (hq : rdS H 4 w2 = some qs) (hx : ps[i]? = some [.int .i64 a.kind, .int .i64 a.num, s, .int .i64 dp]) (hy : qs[i]? = some [.int .i64 b.kind, .int .i64 b.num, r, .int .i64 dq]) (os : oneC s = true) (or : oneC r = true)
    (hc : call (.fn 59 [.agg #[.int .i64 a.kind, .int .i64 a.num, s, .int .i64 dp], .agg #[.int .i64 b.kind, .int .i64 b.num, r, .int .i64 dq]]) (partIn (partIn H a.kind a.num s dp) b.kind b.num r dq) = some (.ret (.bool eq), H')) :
    (eq = true → ∃ env', evCode Try.prog call lf 32 none (cAt Try.f58 pEq) env [] H = some (.normal, env', [], H') ∧ env'.val 1 = env.val 1 ∧ env'.val 2 = env.val 2 ∧ env'.val 15 = env.val 15 ∧ env'.val 16 = env.val 16 ∧ env'.val 17 = .int .i64 ((i + 1 : Nat) : Int)) ∧
    (eq = false → ∃ env', evCode Try.prog call lf 32 none (cAt Try.f58 pEq) env [] H = some (.ret, env', [], H') ∧ env'.val 6 = .bool false) := by
  have c1 : (i : Int) < (n : Int) := by omega
  have hin := (List.getElem?_eq_some_iff.1 hx).1
  have hiq := (List.getElem?_eq_some_iff.1 hy).1
  have w : IntKind.i64.wrap ((i : Int) + 1) = (i : Int) + 1 := wrapI (by omega) (by omega)
  have ix := rdS_index hp Try.underlying66 info75 (by simp) (n := (i : Int)) (by omega) (by omega)
  have iy := rdS_index hq Try.underlying66 info75 (by simp) (n := (i : Int)) (by omega) (by omega)
  simp only [Int.toNat_natCast] at ix iy
  have lx := rdS_loadA hp hx (t := 75) info75 (by simp) Try.underlying75 rfl
  have st1 := store75 (H := H) (k := a.kind) (n := a.num) (dp := dp) os
  have k1 := partIn_kept hw a.kind a.num s dp
  have g1 := partIn_self H a.kind a.num s dp
  have ly := rdS_loadA (rdS_ext (k1.ext hw) hq) hy (t := 75) info75 (by simp) Try.underlying75 rfl
  generalize partIn H a.kind a.num s dp = H1 at *
  have st2 := store75 (H := H1) (k := b.kind) (n := b.num) (dp := dq) or
  have k2 := partIn_kept k1.wf b.kind b.num r dq
  have g2 := partIn_self H1 b.kind b.num r dq
  generalize partIn H1 b.kind b.num r dq = H2 at *
  have l1 : loadA Try.prog 75 H2 H.next 0 = some (.agg #[.int .i64 a.kind, .int .i64 a.num, s, .int .i64 dp]) := by simp [loadA, k2.of_get k1.wf g1 (by simp)]
  have l2 : loadA Try.prog 75 H2 H1.next 0 = some (.agg #[.int .i64 b.kind, .int .i64 b.num, r, .int .i64 dq]) := by simp [loadA, g2]
  constructor
  · rintro rfl
    generalize hr : evCode Try.prog call lf 32 none (cAt Try.f58 pEq) env [] H = out
    simp [pEq, Try.f58, e1, e2, e15, e16, e17, c1, hi, ix, iy, lx, ly, st1, st2, l1, l2, callA, hc, w] at hr
    subst hr
    exact ⟨_, rfl, by simp [e1], by simp [e2], by simp [e15], by simp [e16], by simp⟩
  · rintro rfl
    generalize hr : evCode Try.prog call lf 32 none (cAt Try.f58 pEq) env [] H = out
    simp [pEq, Try.f58, e1, e2, e15, e16, e17, c1, hi, ix, iy, lx, ly, st1, st2, l1, l2, callA, hc, w] at hr
    subst hr
    exact ⟨_, rfl, by simp⟩
theorem eq_loop {call : CallF} {lf : Nat} {H0 : Heap} {w1 w2 : Value} {ps qs : List (List Value)} {l q : List (Nat × ValD)} (hw0 : H0.Wf) (hp : rdS H0 4 w1 = some ps) (hq : rdS H0 4 w2 = some qs) (hl : PartsC H0 l ps) (hr : PartsC H0 q qs) (hlq : l.length = q.length) (hn : l.length ≤ 1000)
    (hcall : ∀ (K : Heap) (a b : ValD) (s r : Value) (dp dq : Int), K.Wf → VAt K a [.int .i64 a.kind, .int .i64 a.num, s] → VAt K b [.int .i64 b.kind, .int .i64 b.num, r] → ∃ K', call (.fn 59 [.agg #[.int .i64 a.kind, .int .i64 a.num, s, .int .i64 dp], .agg #[.int .i64 b.kind, .int .i64 b.num, r, .int .i64 dq]]) K = some (.ret (.bool (partEq a b)), K') ∧ Kept K K' none) :
    ∀ (d i m : Nat) (env : Env) (K : Heap), d < m → l.length = i + d → Kept H0 K none → env.val 1 = w2 → env.val 2 = .func (.func 59) #[] #[] → env.val 15 = w1 → env.val 16 = .int .i64 l.length → env.val 17 = .int .i64 i →
    (all2 (l.drop i) (q.drop i) = true → ∃ env' K', evLoop Try.prog call lf 32 none (cAt Try.f58 pEq) m env [] K = some (.exit 0, env', [], K') ∧ Kept H0 K' none) ∧
    (all2 (l.drop i) (q.drop i) = false → ∃ env' K', evLoop Try.prog call lf 32 none (cAt Try.f58 pEq) m env [] K = some (.ret, env', [], K') ∧ env'.val 6 = .bool false ∧ Kept H0 K' none)
  | d, i, 0, env, K, hm, _, _, _, _, _, _, _ => by omega
  | 0, i, m + 1, env, K, hm, hd, hk, e1, e2, e15, e16, e17 => by
    obtain ⟨env', he⟩ := eq_exit (call := call) (lf := lf) (H := K) e16 e17 (by omega)
    simp only [evLoop_succ, he]
    rw [List.drop_eq_nil_of_le (by omega)]
    exact ⟨fun _ => ⟨env', K, rfl, hk⟩, (fun h => by cases h)⟩
  | d + 1, i, m + 1, env, K, hm, hd, hk, e1, e2, e15, e16, e17 => by
    have hx := List.getElem?_eq_getElem (l := l) (i := i) (by omega)
    have hy := List.getElem?_eq_getElem (l := q) (i := i) (by omega)
    have hdr := List.drop_eq_getElem_cons (l := l) (i := i) (by omega)
    have hdq := List.drop_eq_getElem_cons (l := q) (i := i) (by omega)
    have xk := hk.ext hw0
    obtain ⟨x, hx', s, rfl, hva⟩ := hl.2 i _ hx
    obtain ⟨y, hy', r, rfl, hvb⟩ := hr.2 i _ hy
    obtain ⟨s0, e0, sc, os, _⟩ := hva.one
    simp only [List.cons.injEq, true_and, and_true] at e0
    subst e0
    obtain ⟨r0, e0, rc, or, _⟩ := hvb.one
    simp only [List.cons.injEq, true_and, and_true] at e0
    subst e0
    have k1 := partIn_kept hk.wf (l[i]'(by omega)).2.kind (l[i]'(by omega)).2.num s ((l[i]'(by omega)).1 : Int)
    have k2 := partIn_kept k1.wf (q[i]'(by omega)).2.kind (q[i]'(by omega)).2.num r ((q[i]'(by omega)).1 : Int)
    have x2 := ((hk.trans k1).trans k2).ext hw0
    obtain ⟨K', hc, k3⟩ := hcall _ (l[i]'(by omega)).2 (q[i]'(by omega)).2 s r ((l[i]'(by omega)).1 : Int) ((q[i]'(by omega)).1 : Int) k2.wf (hva.ext x2) (hvb.ext x2)
    obtain ⟨q1, q2⟩ := eq_step (lf := lf) hk.wf e1 e2 e15 e16 e17 (by omega) hn (rdS_ext xk hp) (rdS_ext xk hq) hx' hy' os or hc
    have kk := ((hk.trans k1).trans k2).trans k3
    rw [hdr, hdq, all2]
    cases h : partEq (l[i]'(by omega)).2 (q[i]'(by omega)).2 with
    | true =>
      obtain ⟨env', he, u1, u2, u15, u16, u17⟩ := q1 h
      have := eq_loop (lf := lf) hw0 hp hq hl hr hlq hn hcall d (i + 1) m env' K' (by omega) (by omega) kk (u1.trans e1) (u2.trans e2) (u15.trans e15) (u16.trans e16) u17
      simp only [evLoop_succ, he, Bool.true_and]
      exact this
    | false =>
      obtain ⟨env', he, u6⟩ := q2 h
      simp only [evLoop_succ, he, Bool.false_and]
      exact ⟨(fun h => by cases h), fun _ => ⟨env', K', rfl, u6, kk⟩⟩
theorem equal_run {call : CallF} {lf : Nat} {H0 : Heap} {w1 w2 : Value} {ps qs : List (List Value)} {l q : List (Nat × ValD)} (hw0 : H0.Wf) (hp : rdS H0 4 w1 = some ps) (hq : rdS H0 4 w2 = some qs) (hl : PartsC H0 l ps) (hrr : PartsC H0 q qs) (hn : l.length ≤ 256) (hlf : 300 ≤ lf)
    (hcall : ∀ (K : Heap) (a b : ValD) (s r : Value) (dp dq : Int), K.Wf → VAt K a [.int .i64 a.kind, .int .i64 a.num, s] → VAt K b [.int .i64 b.kind, .int .i64 b.num, r] → ∃ K', call (.fn 59 [.agg #[.int .i64 a.kind, .int .i64 a.num, s, .int .i64 dp], .agg #[.int .i64 b.kind, .int .i64 b.num, r, .int .i64 dq]]) K = some (.ret (.bool (partEq a b)), K') ∧ Kept K K' none) :
    ∃ H', evFn Try.prog call lf 58 [w1, w2, .func (.func 59) #[] #[]] H0 = some (.ret (.bool (decide (l.length = q.length) && all2 l q)), H') ∧ Kept H0 H' none := by
  have hla := len_of (H' := H0) (P := Try.prog) (t := 66) hp Try.underlying66
  have hlb := len_of (H' := H0) (P := Try.prog) (t := 66) hq Try.underlying66
  rw [hl.1] at hla
  rw [hrr.1] at hlb
  generalize hr : evFn Try.prog call lf 58 [w1, w2, .func (.func 59) #[] #[]] H0 = out
  by_cases hlen : l.length = q.length
  · rw [decide_eq_true hlen]
    rw [← hlen] at hlb
    simp [Try.f58, hla, hlb] at hr
    generalize hL0 : evLoop _ _ _ _ _ _ _ _ _ _ = L at hr
    have aux : ∀ env, evLoop Try.prog call lf 32 none (cAt Try.f58 pEq) lf env [] H0 = L → env.val 1 = w2 → env.val 2 = .func (.func 59) #[] #[] → env.val 15 = w1 → env.val 16 = .int .i64 l.length → env.val 17 = .int .i64 (0 : Nat) →
        (all2 l q = true → ∃ env' K', L = some (.exit 0, env', [], K') ∧ Kept H0 K' none) ∧ (all2 l q = false → ∃ env' K', L = some (.ret, env', [], K') ∧ env'.val 6 = .bool false ∧ Kept H0 K' none) := by
      intro env hL e1 e2 e15 e16 e17
      have := eq_loop (lf := lf) hw0 hp hq hl hrr hlen (by omega) hcall l.length 0 lf env H0 (by omega) (by omega) (Kept.refl hw0 none) e1 e2 e15 e16 e17
      rw [hL, List.drop_zero, List.drop_zero] at this
      exact this
    obtain ⟨r1, r2⟩ := aux _ hL0 (by simp) (by simp) (by simp) (by simp) (by simp)
    cases hss : all2 l q with
    | true =>
      obtain ⟨env', K', rfl, kk⟩ := r1 hss
      exact ⟨K', by simpa using hr.symm, kk⟩
    | false =>
      obtain ⟨env', K', rfl, u6, kk⟩ := r2 hss
      exact ⟨K', by simpa [u6] using hr.symm, kk⟩
  · have hl' : ¬ ((l.length : Int) = (q.length : Int)) := by omega
    have hlb' : ((l.length : Int) != (q.length : Int)) = true := by simp only [bne_iff_ne, ne_eq]; exact hl'
    rw [decide_eq_false hlen]
    simp [Try.f58, hla, hlb, hlen, hl', hlb'] at hr
    exact ⟨H0, by simpa using hr.symm, Kept.refl hw0 none⟩
end Go.Proofs.Ytgopamojnoefiaa

namespace Go.Proofs.Ytgopamojnoefiaa
open Go Go.Abs
set_option maxRecDepth 100000
set_option linter.unusedSimpArgs false
set_option linter.unusedVariables false

/-! ### Values are the same if their parts are -/
def keyP (p : Nat × ValD) : Int × Int × Nat := (p.2.kind, p.2.num, p.2.own.length)
theorem partEq_iff (a b : Nat × ValD) : partEq a.2 b.2 = true ↔ keyP a = keyP b := by
  simp only [partEq, keyP, Bool.and_eq_true, decide_eq_true_eq, Prod.mk.injEq]
theorem all2_iff : ∀ (l q : List (Nat × ValD)), l.length = q.length → (all2 l q = true ↔ l.map keyP = q.map keyP)
  | [], [], _ => by simp [all2]
  | [], b :: q, h => by simp at h
  | a :: l, [], h => by simp at h
  | a :: l, b :: q, h => by
    have ih := all2_iff l q (by simpa using h)
    simp only [all2, Bool.and_eq_true, List.map_cons, List.cons.injEq]
    rw [partEq_iff, ih]
theorem preC_dec : ∀ (a : ValD), a.size ≤ 256 → ∀ (b : ValD), b.size ≤ 256 → ∀ (da db : Nat) (ra rb : List (Int × Int × Nat)), (preC da a).map keyP ++ ra = (preC db b).map keyP ++ rb → a = b ∧ ra = rb := by
  intro a
  induction a using ValD.ind with
  | h a ih =>
    intro ha b hb da db ra rb he
    have hla := ValD.length_sizes a.own
    have hlb := ValD.length_sizes b.own
    have hsa := ValD.size_eq a
    have hsb := ValD.size_eq b
    rw [preC_eq, preC_eq, List.take_of_length_le (by omega), List.take_of_length_le (by omega)] at he
    simp only [List.map_cons, List.cons_append, List.cons.injEq, keyP, Prod.mk.injEq] at he
    obtain ⟨⟨h1, h2, h3⟩, he⟩ := he
    have key : ∀ (l r : List ValD) (ra rb : List (Int × Int × Nat)), (∀ w ∈ l, w ∈ a.own) → (∀ w ∈ r, w ∈ b.own) → l.length = r.length → (l.flatMap (preC (da + 1))).map keyP ++ ra = (r.flatMap (preC (db + 1))).map keyP ++ rb → l = r ∧ ra = rb := by
      intro l
      induction l with
      | nil =>
        intro r ra rb _ _ hl he
        cases r with
        | nil => exact ⟨rfl, by simpa using he⟩
        | cons w r => simp at hl
      | cons v l ihl =>
        intro r ra rb hm hm2 hl he
        cases r with
        | nil => simp at hl
        | cons w r =>
          simp only [List.flatMap_cons, List.map_append, List.append_assoc] at he
          have hv := ValD.mem_size (hm v (by simp))
          have hw := ValD.mem_size (hm2 w (by simp))
          obtain ⟨rfl, he2⟩ := ih v (hm v (by simp)) (by omega) w (by omega) (da + 1) (db + 1) _ _ he
          obtain ⟨rfl, he3⟩ := ihl r ra rb (fun x hx => hm x (by simp [hx])) (fun x hx => hm2 x (by simp [hx])) (by simpa using hl) he2
          exact ⟨rfl, he3⟩
    obtain ⟨h4, h5⟩ := key a.own b.own ra rb (fun w hw => hw) (fun w hw => hw) h3 he
    refine ⟨?_, h5⟩
    cases a; cases b
    simp only [ValD.kind, ValD.num, ValD.own] at *
    subst h1; subst h2; subst h4; rfl
theorem parts_same {a b : ValD} (ha : a.size ≤ 256) (hb : b.size ≤ 256) : (decide ((preC 0 a).length = (preC 0 b).length) && all2 (preC 0 a) (preC 0 b)) = sameL a b := by
  rw [Bool.eq_iff_iff, sameL_iff, Bool.and_eq_true, decide_eq_true_eq]
  constructor
  · rintro ⟨h1, h2⟩
    rw [all2_iff _ _ h1] at h2
    exact (preC_dec a ha b hb 0 0 [] [] (by simpa using h2)).1
  · rintro rfl
    exact ⟨rfl, (all2_iff _ _ rfl).2 rfl⟩

/-! ### Same (22) -/
noncomputable def in50 : CallF := ev1 Try.prog (callP 300) 300
noncomputable def in58 : CallF := evWith Try.prog 300 [] 2
noncomputable def callS : CallF := orC (onlyC 50 in50) in58
theorem callS_ok : CallOk Try.prog callS := orC_ok (onlyC_ok (ev1_sound (callP_ok 300))) (evWith_ok _ _ _)
theorem callS_50 {args : List Value} {H : Heap} {r : CRes × Heap} (h : evFn Try.prog (callP 300) 300 50 args H = some r) : callS (.fn 50 args) H = some r :=
  orC_hit (onlyC_hit.trans h)
theorem callS_58 {H0 : Heap} {w1 w2 : Value} {ps qs : List (List Value)} {l q : List (Nat × ValD)} (hw0 : H0.Wf) (hp : rdS H0 4 w1 = some ps) (hq : rdS H0 4 w2 = some qs) (hl : PartsC H0 l ps) (hr : PartsC H0 q qs) (hn : l.length ≤ 256) :
    ∃ H', callS (.fn 58 [w1, w2, .func (.func 59) #[] #[]]) H0 = some (.ret (.bool (decide (l.length = q.length) && all2 l q)), H') ∧ Kept H0 H' none := by
  unfold callS in58
  rw [orC_miss (onlyC_miss (by decide)), with_nil]
  refine equal_run hw0 hp hq hl hr hn (by omega) fun K a b s r dp dq hwK hva hvb => ?_
  rw [with_nil]
  exact same1_run hwK hva hvb
noncomputable def sameC : Contract Try.prog := Contract.plain 22
  (fun args H => match args with
    | [v, w] => match rdVal H v, rdVal H w with
      | some a, some b => some (.ret (.bool (refSameL a b)))
      | _, _ => none
    | _ => none) (by
    intro args H res hw hr
    split at hr
    · rename_i v w
      split at hr
      · rename_i a b ha hb
        simp only [Option.some.injEq] at hr
        subst hr
        obtain ⟨s, xs, rfl, h1, h2, h3, hva, sc, os, _⟩ := rdVal_cells ha
        obtain ⟨r, ys, rfl, g1, g2, g3, hvb, rc, or, _⟩ := rdVal_cells hb
        have k1 := ((Kept.refl hw none).push (.cells true 3 [.int .i64 a.kind, .int .i64 a.num, s])).push (.cells true 3 [.int .i64 b.kind, .int .i64 b.num, r])
        have q1 : ((H.push (.cells true 3 [.int .i64 a.kind, .int .i64 a.num, s])).push (.cells true 3 [.int .i64 b.kind, .int .i64 b.num, r])).get H.next = some (.cells true 3 [.int .i64 a.kind, .int .i64 a.num, s]) := by rw [get_push_ne (by simp)]; exact get_push_self _ _
        have q2 : ((H.push (.cells true 3 [.int .i64 a.kind, .int .i64 a.num, s])).push (.cells true 3 [.int .i64 b.kind, .int .i64 b.num, r])).get (H.next + 1) = some (.cells true 3 [.int .i64 b.kind, .int .i64 b.num, r]) := get_push_self (H.push _) _
        have ha1 := rdVal_ext (k1.ext hw) ha
        have hb1 := rdVal_ext (k1.ext hw) hb
        generalize hH : (H.push (.cells true 3 [.int .i64 a.kind, .int .i64 a.num, s])).push (.cells true 3 [.int .i64 b.kind, .int .i64 b.num, r]) = H1 at *
        have la : loadA Try.prog 25 H1 H.next 0 = some (.agg #[.int .i64 a.kind, .int .i64 a.num, s]) := by simp [loadA, q1]
        obtain ⟨pa1, pa2⟩ := parts_run (lf := 300) k1.wf ha1 (Nat.le_refl _)
        unfold refSameL
        have pa : ∃ w1 H2, callS (.fn 50 [.agg #[.int .i64 a.kind, .int .i64 a.num, s]]) H1 = some (.ret (.tuple #[w1, .bool (decide (a.size ≤ 256))]), H2) ∧ Kept H1 H2 none ∧ oneC w1 = true ∧ (a.size ≤ 256 → ∃ os, rdS H2 4 w1 = some os ∧ PartsC H2 (preC 0 a) os) := by
          by_cases hla : a.size ≤ 256
          · obtain ⟨w1, H2, os1, c, k, hg, hp⟩ := pa1 ((preC_big a 0).2 hla)
            exact ⟨w1, H2, by rw [decide_eq_true hla]; exact callS_50 c, k, hg.one.2.1, fun _ => ⟨os1, hg.rd, hp.ext (k.ext k1.wf)⟩⟩
          · obtain ⟨w1, H2, c, k, _, o⟩ := pa2 (by have := preC_big a 0; omega)
            exact ⟨w1, H2, by rw [decide_eq_false hla]; exact callS_50 c, k, o, fun h => absurd h hla⟩
        obtain ⟨w1, H2, ca, k2, oa, pra⟩ := pa
        have g2' := k2.of_get k1.wf q2 (by simp)
        have lb : loadA Try.prog 25 H2 (H.next + 1) 0 = some (.agg #[.int .i64 b.kind, .int .i64 b.num, r]) := by simp [loadA, g2']
        obtain ⟨pb1, pb2⟩ := parts_run (lf := 300) k2.wf (rdVal_ext (k2.ext k1.wf) hb1) (Nat.le_refl _)
        have pb : ∃ w2 H3, callS (.fn 50 [.agg #[.int .i64 b.kind, .int .i64 b.num, r]]) H2 = some (.ret (.tuple #[w2, .bool (decide (b.size ≤ 256))]), H3) ∧ Kept H2 H3 none ∧ oneC w2 = true ∧ (b.size ≤ 256 → ∃ os, rdS H3 4 w2 = some os ∧ PartsC H3 (preC 0 b) os) := by
          by_cases hlb : b.size ≤ 256
          · obtain ⟨w1, H2, os1, c, k, hg, hp⟩ := pb1 ((preC_big b 0).2 hlb)
            exact ⟨w1, H2, by rw [decide_eq_true hlb]; exact callS_50 c, k, hg.one.2.1, fun _ => ⟨os1, hg.rd, hp.ext (k.ext k2.wf)⟩⟩
          · obtain ⟨w1, H2, c, k, _, o⟩ := pb2 (by have := preC_big b 0; omega)
            exact ⟨w1, H2, by rw [decide_eq_false hlb]; exact callS_50 c, k, o, fun h => absurd h hlb⟩
        obtain ⟨w2, H3, cb, k3, ob, prb⟩ := pb
        by_cases hla : a.size ≤ 256
        · by_cases hlb : b.size ≤ 256
          · obtain ⟨o1, hr1, hp1⟩ := pra hla
            obtain ⟨o2, hr2, hp2⟩ := prb hlb
            obtain ⟨H4, c58, k4⟩ := callS_58 k3.wf (rdS_ext (k3.ext k2.wf) hr1) hr2 (hp1.ext (k3.ext k2.wf)) hp2 ((preC_big a 0).2 hla)
            rw [parts_same hla hlb] at c58
            rw [decide_eq_true hla] at ca ⊢
            rw [decide_eq_true hlb] at cb ⊢
            refine ⟨rfl, callS, H4, callS_ok, 0, ?_, (((k1.trans k2).trans k3).trans k4).ext hw⟩
            generalize callS = call at ca cb c58
            simp [Try.f22, os, or, hH, la, lb, callA, ca, cb, c58]
          · rw [decide_eq_true hla] at ca ⊢
            rw [decide_eq_false hlb] at cb ⊢
            refine ⟨rfl, callS, H3, callS_ok, 0, ?_, ((k1.trans k2).trans k3).ext hw⟩
            generalize callS = call at ca cb
            simp [undef, Try.f22, os, or, hH, la, lb, callA, ca, cb]
        · rw [decide_eq_false hla] at ca ⊢
          refine ⟨rfl, callS, H3, callS_ok, 0, ?_, ((k1.trans k2).trans k3).ext hw⟩
          generalize callS = call at ca cb
          simp [undef, Try.f22, os, or, hH, la, lb, callA, ca, cb]
      · cases hr
    · cases hr)
theorem same_hit {cs : List (Contract Try.prog)} {H : Heap} {v w : Value} {a b : ValD} (h : rdVal H v = some a) (h2 : rdVal H w = some b) : callOf (sameC :: cs) (.fn 22 [v, w]) H = some (.ret (.bool (refSameL a b)), H) :=
  callOf_hit rfl (by simp [sameC, Contract.plain, h, h2])
end Go.Proofs.Ytgopamojnoefiaa

namespace Go.Proofs.Ytgopamojnoefiaa
open Go Go.Abs
set_option maxRecDepth 100000
set_option linter.unusedSimpArgs false
set_option linter.unusedVariables false

theorem flatten_putAt {es : Nat} : ∀ (xs : List (List Value)) (p q : Nat) (x y : List Value), (∀ x ∈ xs, x.length = es) → xs[p]? = some x → q + y.length ≤ es → putL xs.flatten (p * es + q) y = (xs.set p (putL x q y)).flatten
  | [], p, q, x, y, _, h, _ => by simp at h
  | z :: xs, 0, q, x, y, hx, h, hq => by
    simp at h
    subst h
    have := hx z (by simp)
    simp only [putL, Nat.zero_mul, Nat.zero_add, List.flatten_cons, List.set_cons_zero]
    rw [List.take_append_of_le_length (by omega), List.drop_append_of_le_length (by omega)]
    simp
  | z :: xs, p + 1, q, x, y, hx, h, hq => by
    have hl := hx z (by simp)
    have hi := (List.getElem?_eq_some_iff.1 h).1
    have ih := flatten_putAt xs p q x y (fun w hw => hx w (by simp [hw])) (by simpa using h) hq
    simp only [List.set_cons_succ, List.flatten_cons]
    rw [← ih]
    simp only [putL, Nat.succ_mul]
    rw [List.take_append, List.take_of_length_le (by omega), show p * es + es + q - z.length = p * es + q by omega, List.drop_append, List.drop_eq_nil_of_le (by omega), List.nil_append, show p * es + es + q + y.length - z.length = p * es + q + y.length by omega]
    simp

/-! ### ValSame (6) -/
def pV1 : List Nat := [1, 1, 1, 1, 0, 1, 0, 0]
def pV2 : List Nat := [1, 1, 1, 1, 1, 0, 1, 0, 0]
theorem v1_exit {call : CallF} {lf : Nat} {env : Env} {H : Heap} {b5 i n : Nat} {s : Value} (e5 : env.val 5 = .pointer (some ⟨b5, 0, none⟩)) (e7 : env.val 7 = .int .i64 (i : Int)) (l2 : loadA Try.prog 23 H b5 2 = some s) (hl : builtinA Try.prog .len #[23] [s] H = some (.val (.int .i64 n), H)) (hi : n ≤ i) :
    ∃ env', evCode Try.prog call lf 87 none (cAt Try.f6 pV1) env [] H = some (.exit 0, env', [], H) ∧ env'.val 2 = env.val 2 ∧ env'.val 5 = env.val 5 ∧ env'.val 6 = env.val 6 := by
  have c1 : ¬ (i : Int) < (n : Int) := by omega
  generalize hr : evCode Try.prog call lf 87 none (cAt Try.f6 pV1) env [] H = out
  simp [pV1, Try.f6, e5, e7, l2, hl, hi, c1] at hr
  subst hr
  exact ⟨_, rfl, by simp, by simp [e5], by simp⟩
theorem v1_step {call : CallF} {lf : Nat} {env : Env} {H H' : Heap} {b5 b i n : Nat} {s : Value} {m : Int} (e5 : env.val 5 = .pointer (some ⟨b5, 0, none⟩)) (e7 : env.val 7 = .int .i64 (i : Int)) (l2 : loadA Try.prog 23 H b5 2 = some s) (hl : builtinA Try.prog .len #[23] [s] H = some (.val (.int .i64 n), H)) (hi : i < n) (hn : n < 1099511627776)
    (ix : indexAddrA Try.prog 23 s (i : Int) = some (.pointer (some ⟨b, i * 3, none⟩))) (ld : loadA Try.prog 2 H b (i * 3 + 1) = some (.int .i64 m)) (st : storeA Try.prog 2 H b (i * 3 + 1) (.int .i64 (IntKind.i64.wrap (m + 1))) = some H') :
    ∃ env', evCode Try.prog call lf 87 none (cAt Try.f6 pV1) env [] H = some (.normal, env', [], H') ∧ env'.val 2 = env.val 2 ∧ env'.val 5 = env.val 5 ∧ env'.val 6 = env.val 6 ∧ env'.val 7 = .int .i64 ((i + 1 : Nat) : Int) := by
  have c1 : (i : Int) < (n : Int) := by omega
  have w1 : IntKind.i64.wrap ((i : Int) + 1) = (i : Int) + 1 := wrapI (by omega) (by omega)
  generalize hw : IntKind.i64.wrap (m + 1) = m' at *
  generalize hr : evCode Try.prog call lf 87 none (cAt Try.f6 pV1) env [] H = out
  simp [pV1, Try.f6, e5, e7, l2, hl, hi, c1, ix, ld, hw, st, w1] at hr
  subst hr
  exact ⟨_, rfl, by simp, by simp [e5], by simp, by simp⟩
theorem v2_exit {call : CallF} {lf : Nat} {env : Env} {H : Heap} {b5 i n : Nat} {s : Value} (e5 : env.val 5 = .pointer (some ⟨b5, 0, none⟩)) (e8 : env.val 8 = .int .i64 (i : Int)) (l2 : loadA Try.prog 23 H b5 2 = some s) (hl : builtinA Try.prog .len #[23] [s] H = some (.val (.int .i64 n), H)) (hi : n ≤ i) :
    ∃ env', evCode Try.prog call lf 87 none (cAt Try.f6 pV2) env [] H = some (.exit 2, env', [], H) ∧ env'.val 6 = env.val 6 := by
  have c1 : ¬ (i : Int) < (n : Int) := by omega
  generalize hr : evCode Try.prog call lf 87 none (cAt Try.f6 pV2) env [] H = out
  simp [pV2, Try.f6, e5, e8, l2, hl, hi, c1] at hr
  subst hr
  exact ⟨_, rfl, by simp⟩
theorem v2_step {call : CallF} {lf : Nat} {env : Env} {H : Heap} {b1 b5 b i n : Nat} {s sa : Value} {m : Int} (e2 : env.val 2 = .pointer (some ⟨b1, 0, none⟩)) (e5 : env.val 5 = .pointer (some ⟨b5, 0, none⟩)) (e8 : env.val 8 = .int .i64 (i : Int)) (l2 : loadA Try.prog 23 H b5 2 = some s) (la : loadA Try.prog 23 H b1 2 = some sa) (hl : builtinA Try.prog .len #[23] [s] H = some (.val (.int .i64 n), H)) (hi : i < n) (hn : n < 1099511627776)
    (ix : indexAddrA Try.prog 23 s (i : Int) = some (.pointer (some ⟨b, i * 3, none⟩))) (ld : loadA Try.prog 2 H b (i * 3 + 1) = some (.int .i64 (IntKind.i64.wrap (m + 1)))) (iy : indexAddrA Try.prog 23 sa (i : Int) = some (.pointer (some ⟨blk sa, offs sa + i * 3, none⟩))) (ly : loadA Try.prog 2 H (blk sa) (offs sa + i * 3 + 1) = some (.int .i64 m)) :
    ∃ env', evCode Try.prog call lf 87 none (cAt Try.f6 pV2) env [] H = some (.normal, env', [], H) ∧ env'.val 2 = env.val 2 ∧ env'.val 5 = env.val 5 ∧ env'.val 6 = env.val 6 ∧ env'.val 8 = .int .i64 ((i + 1 : Nat) : Int) := by
  have c1 : (i : Int) < (n : Int) := by omega
  have w1 : IntKind.i64.wrap ((i : Int) + 1) = (i : Int) + 1 := wrapI (by omega) (by omega)
  generalize hw : IntKind.i64.wrap (m + 1) = m' at *
  generalize hr : evCode Try.prog call lf 87 none (cAt Try.f6 pV2) env [] H = out
  simp [pV2, Try.f6, e2, e5, e8, l2, la, hl, hi, c1] at hr
  rw [evDraw_tab (tab := [])] at hr
  · simp [eqA, Try.underlying2, e2, e5, e8, l2, la, ix, ld, iy, ly, hw, w1] at hr
    subst hr
    exact ⟨_, rfl, by simp [e2], by simp [e5], by simp, by simp⟩
  · kernel_rfl
  · kernel_rfl

/-- A row whose first i numbers are one more. -/
def Bump (l : List ValD) (i : Nat) (ys : List (List Value)) : Prop := ys.length = l.length ∧ ∀ (j : Nat) v, l[j]? = some v → ∃ s, ys[j]? = some [.int .i64 v.kind, .int .i64 (if j < i then IntKind.i64.wrap (v.num + 1) else v.num), s] ∧ oneC s = true
theorem Bump.three {l : List ValD} {i : Nat} {ys : List (List Value)} (h : Bump l i ys) : ∀ x ∈ ys, x.length = 3 := by
  intro x hx
  obtain ⟨j, hj, rfl⟩ := List.mem_iff_getElem.1 hx
  obtain ⟨s, e, _⟩ := h.2 j _ (List.getElem?_eq_getElem (by rw [← h.1]; exact hj))
  rw [List.getElem?_eq_getElem hj] at e
  rw [Option.some.inj e]; rfl
theorem v1_loop {call : CallF} {lf : Nat} {H0 : Heap} {b5 b : Nat} {c5 : List Value} {l : List ValD} (hw0 : H0.Wf) (g5 : H0.get b5 = some (.cells true 3 c5)) (hne : b5 ≠ b) (h5 : ∀ K : Heap, K.get b5 = some (.cells true 3 c5) → loadA Try.prog 23 K b5 2 = some (.slice (some ⟨b, 0, none⟩) l.length BIG)) (hn : l.length < 1099511627776) :
    ∀ (d i m : Nat) (env : Env) (K : Heap) (ys : List (List Value)), d < m → l.length = i + d → Kept H0 K (some b) → K.get b = some (.cells true 3 ys.flatten) → Bump l i ys → env.val 5 = .pointer (some ⟨b5, 0, none⟩) → env.val 7 = .int .i64 (i : Int) →
    ∃ env' K', ∃ ys' : List (List Value), evLoop Try.prog call lf 87 none (cAt Try.f6 pV1) m env [] K = some (.exit 0, env', [], K') ∧ env'.val 2 = env.val 2 ∧ env'.val 5 = env.val 5 ∧ env'.val 6 = env.val 6 ∧ Kept H0 K' (some b) ∧ K'.get b = some (.cells true 3 ys'.flatten) ∧ Bump l l.length ys'
  | d, i, 0, env, K, ys, hm, _, _, _, _, _, _ => by omega
  | 0, i, m + 1, env, K, ys, hm, hd, hk, hg, hB, e5, e7 => by
    have hrd : rdS K 3 (.slice (some ⟨b, 0, none⟩) l.length BIG) = some ys := by rw [← hB.1]; exact rd_of_cells hg hB.three
    have hl := len_of (H' := K) (P := Try.prog) (t := 23) hrd Try.underlying23
    obtain ⟨env', he, u2, u5, u6⟩ := v1_exit (call := call) (lf := lf) e5 e7 (h5 K (hk.of_get hw0 g5 (by simpa using hne))) hl (by rw [hB.1]; omega)
    simp only [evLoop_succ, he]
    have hil : i = l.length := by omega
    subst hil
    exact ⟨env', K, ys, rfl, u2, u5, u6, hk, hg, hB⟩
  | d + 1, i, m + 1, env, K, ys, hm, hd, hk, hg, hB, e5, e7 => by
    have hrd : rdS K 3 (.slice (some ⟨b, 0, none⟩) l.length BIG) = some ys := by rw [← hB.1]; exact rd_of_cells hg hB.three
    have hl := len_of (H' := K) (P := Try.prog) (t := 23) hrd Try.underlying23
    have hx := List.getElem?_eq_getElem (l := l) (i := i) (by omega)
    obtain ⟨s, ey, os⟩ := hB.2 i _ hx
    rw [if_neg (Nat.lt_irrefl _)] at ey
    have hyl := hB.1
    have ix := rdS_index hrd Try.underlying23 info25 size25 (n := (i : Int)) (by omega) (by omega)
    simp only [blk, offs, Int.toNat_natCast, Nat.zero_add] at ix
    have ld := rdS_load (k := 1) hrd ey (u := .int .i64 (l[i]'(by omega)).num) rfl (t := 2) info2 Try.underlying2 rfl
    simp only [blk, offs, Nat.zero_add] at ld
    have hfl : ys.flatten.length = ys.length * 3 := flatten_length ys hB.three
    have hput : putL ys.flatten (i * 3 + 1) [.int .i64 (IntKind.i64.wrap ((l[i]'(by omega)).num + 1))] = (ys.set i [.int .i64 (l[i]'(by omega)).kind, .int .i64 (IntKind.i64.wrap ((l[i]'(by omega)).num + 1)), s]).flatten := by
      rw [flatten_putAt ys i 1 _ _ hB.three ey (by simp)]
      rfl
    have st : storeA Try.prog 2 K b (i * 3 + 1) (.int .i64 (IntKind.i64.wrap ((l[i]'(by omega)).num + 1))) = some (K.set b (.cells true 3 (ys.set i [.int .i64 (l[i]'(by omega)).kind, .int .i64 (IntKind.i64.wrap ((l[i]'(by omega)).num + 1)), s]).flatten)) := by
      rw [← hput]
      simp only [storeA, hg, info2]
      rw [if_pos ⟨rfl, by rw [hfl]; show i * 3 + 1 + 1 ≤ _; omega, by rfl⟩]
      rfl
    have hbK := hk.wf.lt hg
    obtain ⟨env', he, u2, u5, u6, u7⟩ := v1_step (call := call) (lf := lf) e5 e7 (h5 K (hk.of_get hw0 g5 (by simpa using hne))) hl (by omega) (by omega) ix ld st
    obtain ⟨e2, K', ys', r, t2, t5, t6, r1, r2, r3⟩ := v1_loop (lf := lf) (call := call) hw0 g5 hne h5 hn d (i + 1) m env' _ (ys.set i [.int .i64 (l[i]'(by omega)).kind, .int .i64 (IntKind.i64.wrap ((l[i]'(by omega)).num + 1)), s]) (by omega) (by omega) (hk.kill hbK _) (get_set_self _ _ _)
      ⟨by simp [hyl], fun j v hv => by
        have hjl := (List.getElem?_eq_some_iff.1 hv).1
        by_cases hji : j = i
        · subst hji
          rw [hx] at hv; cases hv
          rw [List.getElem?_set_self (by omega), if_pos (by omega)]
          exact ⟨s, rfl, os⟩
        · rw [List.getElem?_set_ne (by omega)]
          obtain ⟨s2, a, c⟩ := hB.2 j v hv
          refine ⟨s2, ?_, c⟩
          rw [a]
          by_cases hlt : j < i
          · rw [if_pos hlt, if_pos (by omega)]
          · rw [if_neg hlt, if_neg (by omega)]⟩ (u5.trans e5) u7
    simp only [evLoop_succ, he]
    exact ⟨e2, K', ys', r, t2.trans u2, t5.trans u5, t6.trans u6, r1, r2, r3⟩
theorem v2_loop {call : CallF} {lf : Nat} {K : Heap} {b1 b5 b : Nat} {s sa : Value} {l : List ValD} {ys : List (List Value)} (l2 : loadA Try.prog 23 K b5 2 = some (.slice (some ⟨b, 0, none⟩) l.length BIG)) (la : loadA Try.prog 23 K b1 2 = some sa) (hg : K.get b = some (.cells true 3 ys.flatten)) (hB : Bump l l.length ys) (hv : rdVals K sa = some l) (hn : l.length < 1099511627776) :
    ∀ (d i m : Nat) (env : Env), d < m → l.length = i + d → env.val 2 = .pointer (some ⟨b1, 0, none⟩) → env.val 5 = .pointer (some ⟨b5, 0, none⟩) → env.val 8 = .int .i64 (i : Int) →
    ∃ env', evLoop Try.prog call lf 87 none (cAt Try.f6 pV2) m env [] K = some (.exit 2, env', [], K) ∧ env'.val 6 = env.val 6
  | d, i, 0, env, hm, _, _, _, _ => by omega
  | 0, i, m + 1, env, hm, hd, e2, e5, e8 => by
    have hrd : rdS K 3 (.slice (some ⟨b, 0, none⟩) l.length BIG) = some ys := by rw [← hB.1]; exact rd_of_cells hg hB.three
    have hl := len_of (H' := K) (P := Try.prog) (t := 23) hrd Try.underlying23
    obtain ⟨env', he, u6⟩ := v2_exit (call := call) (lf := lf) e5 e8 l2 hl (by rw [hB.1]; omega)
    simp only [evLoop_succ, he]
    exact ⟨env', rfl, u6⟩
  | d + 1, i, m + 1, env, hm, hd, e2, e5, e8 => by
    have hrd : rdS K 3 (.slice (some ⟨b, 0, none⟩) l.length BIG) = some ys := by rw [← hB.1]; exact rd_of_cells hg hB.three
    have hl := len_of (H' := K) (P := Try.prog) (t := 23) hrd Try.underlying23
    have hx := List.getElem?_eq_getElem (l := l) (i := i) (by omega)
    obtain ⟨s, ey, os⟩ := hB.2 i _ hx
    rw [if_pos (by omega)] at ey
    have hyl := hB.1
    have ix := rdS_index hrd Try.underlying23 info25 size25 (n := (i : Int)) (by omega) (by omega)
    simp only [blk, offs, Int.toNat_natCast, Nat.zero_add] at ix
    have ld := rdS_load (k := 1) hrd ey (u := .int .i64 (IntKind.i64.wrap ((l[i]'(by omega)).num + 1))) rfl (t := 2) info2 Try.underlying2 rfl
    simp only [blk, offs, Nat.zero_add] at ld
    obtain ⟨zs, hz⟩ := rdVals_inv hv
    obtain ⟨s', g1, g2⟩ := hz.get hx
    have iy := rdS_index hz.1 Try.underlying23 info25 size25 (n := (i : Int)) (by omega) (by have := hz.2.1; omega)
    simp only [Int.toNat_natCast] at iy
    have ly := rdS_load (k := 1) hz.1 g1 (u := .int .i64 (l[i]'(by omega)).num) rfl (t := 2) info2 Try.underlying2 rfl
    obtain ⟨env', he, u2, u5, u6, u8⟩ := v2_step (call := call) (lf := lf) e2 e5 e8 l2 la hl (by omega) (by omega) ix ld iy ly
    obtain ⟨e3, r, t6⟩ := v2_loop (lf := lf) (call := call) (s := s) l2 la hg hB hv hn d (i + 1) m env' (by omega) (by omega) (u2.trans e2) (u5.trans e5) u8
    simp only [evLoop_succ, he]
    exact ⟨e3, r, t6.trans u6⟩
end Go.Proofs.Ytgopamojnoefiaa

namespace Go.Proofs.Ytgopamojnoefiaa
open Go Go.Abs
set_option maxRecDepth 100000
set_option linter.unusedSimpArgs false
set_option linter.unusedVariables false

theorem refSame_comm (a b : ValD) : refSameL a b = refSameL b a := by
  have h : sameL a b = sameL b a := by
    rw [Bool.eq_iff_iff, sameL_iff, sameL_iff]; exact eq_comm
  unfold refSameL
  rw [h]
  cases decide (a.size ≤ 256) <;> cases decide (b.size ≤ 256) <;> simp
noncomputable def c6 : List (Contract Try.prog) := [refSizeC, refSameC, sameC, worksC]
noncomputable def in21 : CallF := ev1 Try.prog callCy 0
theorem in21_ok : CallOk Try.prog in21 := ev1_sound callCy_ok
noncomputable def call6 : CallF := orC (callOf c6) (onlyC 21 in21)
theorem call6_ok : CallOk Try.prog call6 := orC_ok (callOf_ok _) (onlyC_ok in21_ok)
theorem call6_21 {args : List Value} {H : Heap} {r : CRes × Heap} (h : evFn Try.prog callCy 0 21 args H = some r) : call6 (.fn 21 args) H = some r :=
  (orC_miss (by unfold c6; (iterate 4 rw [callOf_miss (by decide)]); rfl)).trans (onlyC_hit.trans h)

theorem vsame_run {H : Heap} {va vb : Value} {a b : ValD} (hw : H.Wf) (ha : rdVal H va = some a) (hb : rdVal H vb = some b) (hba : a.size ≤ 1073741824) (hbb : b.size ≤ 1073741824) : ∃ H', evFn Try.prog call6 300 6 [va, vb] H = some (.ret (.bool true), H') := by
  have h17 : ∀ K, call6 (.fn 17 []) K = some (.ret (.bool true), K) := fun K => orC_hit (by unfold c6; (iterate 3 rw [callOf_miss (by decide)]); exact callOf_hit rfl rfl)
  have h14 : ∀ (K : Heap) (x : Value) (v : ValD), rdVal K x = some v → v.size ≤ 1073741824 → call6 (.fn 14 [x]) K = some (.ret (.int .i64 (refSize v)), K) := fun K x v hx hs => orC_hit (refSize_hit hx hs)
  have h20 : ∀ (K : Heap) (x y : Value) (a b : ValD), rdVal K x = some a → rdVal K y = some b → a.size ≤ 1073741824 → b.size ≤ 1073741824 → call6 (.fn 20 [x, y]) K = some (.ret (.bool (refSameL a b)), K) := fun K x y a b hx hy ha hb => orC_hit (by unfold c6; rw [callOf_miss (by decide)]; exact refSame_hit hx hy ha hb)
  have h22 : ∀ (K : Heap) (x y : Value) (a b : ValD), rdVal K x = some a → rdVal K y = some b → call6 (.fn 22 [x, y]) K = some (.ret (.bool (refSameL a b)), K) := fun K x y a b hx hy => orC_hit (by unfold c6; rw [callOf_miss (by decide), callOf_miss (by decide)]; exact same_hit hx hy)
  have h21 : ∀ {args : List Value} {K : Heap} {r : CRes × Heap}, evFn Try.prog callCy 0 21 args K = some r → call6 (.fn 21 args) K = some r := fun h => call6_21 h
  generalize call6 = call at *
  obtain ⟨s, xs, rfl, h1, h2, h3, hva, sc, os, oe, oe0, hq⟩ := rdVal_cells ha
  obtain ⟨r, ys, rfl, g1, g2, g3, hvb, rc, or, re, re0, gq⟩ := rdVal_cells hb
  have k1 := ((Kept.refl hw none).push (.cells true 3 [.int .i64 a.kind, .int .i64 a.num, s])).push (.cells true 3 [.int .i64 b.kind, .int .i64 b.num, r])
  have q1 : ((H.push (.cells true 3 [.int .i64 a.kind, .int .i64 a.num, s])).push (.cells true 3 [.int .i64 b.kind, .int .i64 b.num, r])).get H.next = some (.cells true 3 [.int .i64 a.kind, .int .i64 a.num, s]) := by rw [get_push_ne (by simp)]; exact get_push_self _ _
  have q2 : ((H.push (.cells true 3 [.int .i64 a.kind, .int .i64 a.num, s])).push (.cells true 3 [.int .i64 b.kind, .int .i64 b.num, r])).get (H.next + 1) = some (.cells true 3 [.int .i64 b.kind, .int .i64 b.num, r]) := get_push_self (H.push _) _
  have n1 : ((H.push (.cells true 3 [.int .i64 a.kind, .int .i64 a.num, s])).push (.cells true 3 [.int .i64 b.kind, .int .i64 b.num, r])).next = H.next + 2 := rfl
  have ha1 := rdVal_ext (k1.ext hw) ha
  have hb1 := rdVal_ext (k1.ext hw) hb
  generalize hH1 : (H.push (.cells true 3 [.int .i64 a.kind, .int .i64 a.num, s])).push (.cells true 3 [.int .i64 b.kind, .int .i64 b.num, r]) = H1 at *
  have la : loadA Try.prog 25 H1 H.next 0 = some (.agg #[.int .i64 a.kind, .int .i64 a.num, s]) := by simp [loadA, q1]
  have lb : loadA Try.prog 25 H1 (H.next + 1) 0 = some (.agg #[.int .i64 b.kind, .int .i64 b.num, r]) := by simp [loadA, q2]
  have c14a := h14 H1 _ a ha1 hba
  have c14b := h14 H1 _ b hb1 hbb
  generalize hr : evFn Try.prog call 300 6 [.agg #[.int .i64 a.kind, .int .i64 a.num, s], .agg #[.int .i64 b.kind, .int .i64 b.num, r]] H = out
  by_cases hla : a.size ≤ 256
  · have ra : refSize a ≤ 256 := by unfold refSize; omega
    have ra' : ¬ (256 : Int) < refSize a := by omega
    by_cases hlb : b.size ≤ 256
    · have rb : refSize b ≤ 256 := by unfold refSize; omega
      have rb' : ¬ (256 : Int) < refSize b := by omega
      obtain ⟨s', H2, c21, k2, ho⟩ := copy_run (lf := 0) k1.wf ha1
      have hcl : copyL a = a := by unfold copyL; rw [if_pos hla]
      rw [hcl] at c21 ho
      have c21' := h21 c21
      obtain ⟨s2, xs2, e2, hro, hxl, hxo⟩ := ho.inv
      simp only [List.cons.injEq, true_and, and_true] at e2
      subst e2
      obtain ⟨sc', os', oe', oe0'⟩ := hro.one
      have k3 := valIn_kept k2.wf a.kind a.num s'
      have p3 := valIn_self H2 a.kind a.num s'
      have n3 : (valIn H2 a.kind a.num s').next = H2.next + 1 := rfl
      have st3 := store25 (H := H2) (k := a.kind) (n := a.num) os'
      have hro3 := hro.keep k3
      have ho3 := ho.from (kept_from k3 k2.wf H1.next)
      generalize hH3 : valIn H2 a.kind a.num s' = H3 at *
      have k23 := k2.trans k3
      have q13 := k23.of_get k1.wf q1 (by simp)
      have q23 := k23.of_get k1.wf q2 (by simp)
      have ha3 := rdVal_ext (k23.ext k1.wf) ha1
      have hb3 := rdVal_ext (k23.ext k1.wf) hb1
      have hc3 : rdVal H3 (.agg #[.int .i64 a.kind, .int .i64 a.num, s']) = some a := rdVal_of ho3.at
      have la3 : loadA Try.prog 25 H3 H.next 0 = some (.agg #[.int .i64 a.kind, .int .i64 a.num, s]) := by simp [loadA, q13]
      have lb3 : loadA Try.prog 25 H3 (H.next + 1) 0 = some (.agg #[.int .i64 b.kind, .int .i64 b.num, r]) := by simp [loadA, q23]
      have lc3 : loadA Try.prog 25 H3 H2.next 0 = some (.agg #[.int .i64 a.kind, .int .i64 a.num, s']) := by simp [loadA, p3]
      have d1 := h20 H3 _ _ a a hc3 ha3 hba hba
      have d2 := h22 H3 _ _ a b ha3 hb3
      have d3 := h20 H3 _ _ a b ha3 hb3 hba hbb
      have d4 := h22 H3 _ _ b a hb3 ha3
      have d5 := h22 H3 _ _ a a ha3 ha3
      rw [refSame_self hla] at d1 d5
      rw [refSame_comm b a] at d4
      generalize refSize a = na at *
      generalize refSize b = nb at *
      generalize refSameL a b = eq at *
      simp [Try.f6, os, or, hH1, la, lb, callA, c14a, c14b, ra, ra', rb, rb', c21', st3] at hr
      rw [evDraw_tab (tab := [(7, [6]), (8, [6]), (16, [15]), (17, [15])])] at hr
      · simp [eqA, Try.underlying4, la3, lb3, lc3, callA, d1, d2, d3, d4, d5, oe, oe0, re, re0, oe', oe0'] at hr
        generalize hL0 : evLoop _ _ _ _ _ _ _ _ _ _ = L at hr
        have hlen := ValD.length_sizes a.own
        have hse := ValD.size_eq a
        have kH : Kept H H3 none := k1.trans k23
        have hvs : rdVals H s = some a.own := rdVals_of ⟨h1, h2, h3, hq⟩
        have aux : ∀ env, evLoop Try.prog call 300 87 none (cAt Try.f6 pV1) 300 env [] H3 = L → env.val 2 = .pointer (some ⟨H.next, 0, none⟩) → env.val 5 = .pointer (some ⟨H2.next, 0, none⟩) → env.val 6 = .bool true → env.val 7 = .int .i64 (0 : Nat) →
            ∃ env' K', L = some (.exit 0, env', [], K') ∧ env'.val 2 = .pointer (some ⟨H.next, 0, none⟩) ∧ env'.val 5 = .pointer (some ⟨H2.next, 0, none⟩) ∧ env'.val 6 = .bool true ∧
              ∀ env2 : Env, env2.val 2 = .pointer (some ⟨H.next, 0, none⟩) → env2.val 5 = .pointer (some ⟨H2.next, 0, none⟩) → env2.val 8 = .int .i64 (0 : Nat) → ∃ env3, evLoop Try.prog call 300 87 none (cAt Try.f6 pV2) 300 env2 [] K' = some (.exit 2, env3, [], K') ∧ env3.val 6 = env2.val 6 := by
          intro env hL e2 e5 e6 e7
          rcases hro3 with ⟨rfl, rfl⟩ | ⟨b', c, rfl, hgb, hlo, hbn, hcc⟩
          · have l2 : loadA Try.prog 23 H3 H2.next 2 = some (.slice none 0 0) := by simp [loadA, p3]
            have hl := len_of (H' := H3) (P := Try.prog) (t := 23) (show rdS H3 3 (.slice none 0 0) = some [] from rfl) Try.underlying23
            obtain ⟨env', he, u2, u5, u6⟩ := v1_exit (call := call) (lf := 300) (i := 0) e5 e7 l2 hl (Nat.le_refl _)
            rw [evLoop_succ, he] at hL
            refine ⟨env', H3, hL.symm, u2.trans e2, u5.trans e5, u6.trans e6, fun env2 f2 f5 f8 => ?_⟩
            obtain ⟨env3, he3, w6⟩ := v2_exit (call := call) (lf := 300) (i := 0) f5 f8 l2 hl (Nat.le_refl _)
            exact ⟨env3, by rw [evLoop_succ, he3], w6⟩
          · rcases hcc with ⟨rfl, rfl⟩ | rfl
            · have l2 : loadA Try.prog 23 H3 H2.next 2 = some (.slice (some ⟨b', 0, none⟩) 0 0) := by simp [loadA, p3]
              have hl := len_of (H' := H3) (P := Try.prog) (t := 23) (show rdS H3 3 (.slice (some ⟨b', 0, none⟩) 0 0) = some [] by simp [rdS, hgb, capA, chunks]) Try.underlying23
              obtain ⟨env', he, u2, u5, u6⟩ := v1_exit (call := call) (lf := 300) (i := 0) e5 e7 l2 hl (Nat.le_refl _)
              rw [evLoop_succ, he] at hL
              refine ⟨env', H3, hL.symm, u2.trans e2, u5.trans e5, u6.trans e6, fun env2 f2 f5 f8 => ?_⟩
              obtain ⟨env3, he3, w6⟩ := v2_exit (call := call) (lf := 300) (i := 0) f5 f8 l2 hl (Nat.le_refl _)
              exact ⟨env3, by rw [evLoop_succ, he3], w6⟩
            · have hne : H2.next ≠ b' := by
                intro e
                have : b' < H2.next := by
                  rcases hro with ⟨_, e⟩ | ⟨b3, c3, e, hg3, _, hb3', _⟩
                  · cases e
                  · simp at e
                omega
              have hB0 : Bump a.own 0 xs2 := ⟨hxl, fun j v hv => by
                have hj := (List.getElem?_eq_some_iff.1 hv).1
                have hx := List.getElem?_eq_getElem (l := xs2) (i := j) (by omega)
                obtain ⟨s9, _, e9, hr9, _⟩ := (hxo j _ v hx hv).inv
                exact ⟨s9, by rw [hx, e9]; simp, hr9.one.2.1⟩⟩
              obtain ⟨env', K', zs, rr, t2, t5, t6, m1, m2, m3⟩ := v1_loop (call := call) (lf := 300) (H0 := H3) (b5 := H2.next) (b := b') (l := a.own) k23.wf p3 hne (fun K hK => by simp [loadA, hK, hxl]) (by omega) a.own.length 0 300 env H3 xs2 (by omega) (by omega) (Kept.refl k23.wf _) hgb hB0 e5 e7
              refine ⟨env', K', hL.symm.trans rr, t2.trans e2, t5.trans e5, t6.trans e6, fun env2 f2 f5 f8 => ?_⟩
              have kK : Kept H K' none := kH.drop m1 (fun b0 hb0 => by cases hb0; omega)
              have p3' := m1.of_get k23.wf p3 (by simpa using hne)
              have q1' := m1.of_get k23.wf q13 (by simp; omega)
              exact v2_loop (call := call) (lf := 300) (b1 := H.next) (sa := s) (s := s) (by simp [loadA, p3', hxl]) (by simp [loadA, q1', sc]) m2 m3 (rdVals_ext (kK.ext hw) hvs) (by omega) a.own.length 0 300 env2 (by omega) (by omega) f2 f5 f8
        obtain ⟨env', K', rfl, u2, u5, u6, hnext⟩ := aux _ hL0 (by simp) (by simp) (by simp) (by simp)
        simp [u2, u5, u6] at hr
        generalize hL1 : evLoop _ _ _ _ _ _ _ _ _ _ = L2 at hr
        have aux2 : ∀ env, evLoop Try.prog call 300 87 none (cAt Try.f6 pV2) 300 env [] K' = L2 → env.val 2 = .pointer (some ⟨H.next, 0, none⟩) → env.val 5 = .pointer (some ⟨H2.next, 0, none⟩) → env.val 8 = .int .i64 (0 : Nat) → ∃ env', L2 = some (.exit 2, env', [], K') ∧ env'.val 6 = env.val 6 := by
          intro env hL e2 e5 e8
          obtain ⟨env', he, w⟩ := hnext env e2 e5 e8
          exact ⟨env', hL.symm.trans he, w⟩
        obtain ⟨env3, rfl, w6⟩ := aux2 _ hL1 (by simp [u2]) (by simp [u5]) (by simp)
        simp [u6] at w6
        simp [w6, callA, h17] at hr
        exact ⟨K', hr.symm⟩
      · kernel_rfl
      · kernel_rfl
    · have rb : ¬ refSize b ≤ 256 := by unfold refSize; omega
      have rb' : (256 : Int) < refSize b := by omega
      generalize refSize a = na at *
      generalize refSize b = nb at *
      simp [undef, Try.f6, os, or, hH1, la, lb, callA, c14a, c14b, ra, ra', rb, rb', h17] at hr
      exact ⟨H1, hr.symm⟩
  · have ra : ¬ refSize a ≤ 256 := by unfold refSize; omega
    have ra' : (256 : Int) < refSize a := by omega
    generalize refSize a = na at *
    simp [undef, Try.f6, os, or, hH1, la, lb, callA, c14a, ra, ra', h17] at hr
    exact ⟨H1, hr.symm⟩
end Go.Proofs.Ytgopamojnoefiaa
