/-
  A part of a proof: texts laid behind one another (W33, W34, W35).
-/
import Derived.Test.YtpopkajkekceiaaGW3
namespace Go.Proofs.Ytpopkajkekceiaa
open Go Go.Abs
set_option maxRecDepth 100000
set_option linter.unusedSimpArgs false
set_option linter.unusedVariables false

theorem bneT {a b : Int} (h : a ≠ b) : (a != b) = true := by simpa using h
/-- A node's place, and an error. -/
def placedL (f : FunD) (node : Int) : Pl × Int := match lookedL f with
  | .error _ => (⟨0, 0, false⟩, 60)
  | .ok ps => if 0 ≤ node ∧ node < f.nodes.length then (ps.getD node.toNat ⟨0, 0, false⟩, 0) else (⟨0, 0, false⟩, 4)

theorem within3 {a : Int} {n : Nat} : withinL [a, 0, (n : Int) - 1] = decide (0 ≤ a ∧ a < n) := by
  simp only [withinL]
  split
  · rename_i h; exact (decide_eq_false (by omega)).symm
  · rename_i h; exact (decide_eq_true (by omega)).symm

noncomputable def c32 : List (Contract Try.prog) := [checkC, withinC]
theorem c32_check {H : Heap} {v : Value} {f : FunD} (h : rdFit H v = some f) : callOf c32 (.fn 14 [v]) H = some (.ret (.int .i64 (whereL f).2), H) := check_hit h
theorem c32_within {H : Heap} {v : Value} (hs : small v = true) {l : List Int} (hl : rdInts H .i64 v = some l) : callOf c32 (.fn 48 [v]) H = some (.ret (.bool (withinL l)), H) := by
  unfold c32
  rw [callOf_miss (by decide)]
  refine callOf_hit rfl ?_
  simp [withinC, Contract.plain, hs, hl]
noncomputable def call32 (lf : Nat) : CallF := orC (callOf c32) (ev1 Try.prog (callOf c06) lf)
theorem call32_ok (lf : Nat) : CallOk Try.prog (call32 lf) := orC_ok (callOf_ok _) (ev1_sound (callOf_ok _))
theorem call32_30 {lf : Nat} {args : List Value} {H : Heap} : call32 lf (.fn 30 args) H = evFn Try.prog (callOf c06) lf 30 args H := by
  unfold call32
  rw [orC_miss (by unfold c32; rw [callOf_miss (by decide), callOf_miss (by decide)]; rfl)]
  rfl
theorem built65_0 : Try.prog.built 65 [] = some #[.int .i64 0, .int .i64 0, .bool false] := by kernel_rfl

theorem flatP_three (ps : List Pl) (i : Nat) (p : Pl) (h : ps[i]? = some p) : ((flatP ps).drop (i * 3)).take 3 = [.int .i64 p.above, .int .i64 p.vars, .bool p.has] := by
  obtain ⟨h0, h1, h2⟩ := flatP_get ps i p h
  apply List.ext_getElem?
  intro j
  rw [List.getElem?_take]
  split
  · rename_i hj
    rw [List.getElem?_drop]
    have : j = 0 ∨ j = 1 ∨ j = 2 := by omega
    rcases this with rfl | rfl | rfl
    · exact h0
    · exact h1
    · exact h2
  · rw [List.getElem?_eq_none]; simp; omega
theorem loadP3 {H : Heap} {b i : Nat} {ps : List Pl} {p : Pl} (h : H.get b = some (.cells true 3 (flatP ps))) (hi : ps[i]? = some p) : loadA Try.prog 65 H b (i * 3) = some (.agg #[.int .i64 p.above, .int .i64 p.vars, .bool p.has]) := by
  have hl := (List.getElem?_eq_some_iff.1 hi).1
  have h3 := flatP_three ps i p hi
  simp only [loadA, h, info65, Try.underlying65, isAggD, if_true, size65]
  rw [if_pos (by rw [flatP_length]; omega), h3]
theorem store65 {H : Heap} {b : Nat} {x y z : Value} {a w : Int} {c : Bool} (h : H.get b = some (.cells true 3 [x, y, z])) :
    storeA Try.prog 65 H b 0 (.agg #[.int .i64 a, .int .i64 w, .bool c]) = some (H.set b (.cells true 3 [.int .i64 a, .int .i64 w, .bool c])) := by
  simp only [storeA, h, info65, size65, cells_agg]
  rw [if_pos ⟨rfl, by simp, rfl⟩]
  rfl
theorem load65 {H : Heap} {b : Nat} {a w : Int} {c : Bool} (h : H.get b = some (.cells true 3 [.int .i64 a, .int .i64 w, .bool c])) : loadA Try.prog 65 H b 0 = some (.agg #[.int .i64 a, .int .i64 w, .bool c]) := by
  simp [loadA, h]

theorem d_R01 {lf : Nat} {H : Heap} {s : Value} {p node : Int} (hs1 : oneC s = true) (hw : H.Wf) {f : FunD} (hf : rdFit H (.agg #[.int .i64 p, s]) = some f) :
    ∃ env', (∀ out, evCode Try.prog (call32 lf) lf 30 none (cAt Try.f32 [1, 0, 1]) env' [] ((H.push (.cells true 2 [.int .i64 p, s])).push (.cells true 3 [.int .i64 0, .int .i64 0, .bool false])) = out →
        evCode Try.prog (call32 lf) lf 30 none (cAt Try.f32 []) (envOf 0 [.agg #[.int .i64 p, s], .int .i64 node] .nil) [] H = match out with
          | some (.normal, e, ds, h) => evCode Try.prog (call32 lf) lf 30 none (cAt Try.f32 [1, 1]) e ds h
          | r => r) ∧
      env'.val 1 = .int .i64 node ∧ env'.val 2 = .pointer (some ⟨H.next, 0, none⟩) ∧ env'.val 4 = .pointer (some ⟨H.next + 1, 0, none⟩) ∧ env'.val 5 = .int .i64 0 ∧ env'.val 6 = .int .i64 (whereL f).2 := by
  have x1 := Ext.push hw (.cells true 2 [.int .i64 p, s])
  have x2 := x1.to_push (hw.push _) (.cells true 3 [.int .i64 0, .int .i64 0, .bool false])
  have r0 : ∃ e, evCode Try.prog (call32 lf) lf 30 none (cAt Try.f32 [0]) (envOf 0 [.agg #[.int .i64 p, s], .int .i64 node] .nil) [] H = some (.normal, e, [], (H.push (.cells true 2 [.int .i64 p, s])).push (.cells true 3 [.int .i64 0, .int .i64 0, .bool false])) ∧
      e.val 1 = .int .i64 node ∧ e.val 2 = .pointer (some ⟨H.next, 0, none⟩) ∧ e.val 4 = .pointer (some ⟨H.next + 1, 0, none⟩) ∧ e.val 5 = .int .i64 0 := by
    generalize hr : evCode Try.prog (call32 lf) lf 30 none (cAt Try.f32 [0]) (envOf 0 [.agg #[.int .i64 p, s], .int .i64 node] .nil) [] H = out
    simp [Try.f32, hs1] at hr
    subst hr
    exact ⟨_, rfl, by simp⟩
  obtain ⟨e, r0, v1, v2, v4, v5⟩ := r0
  have g0 : ((H.push (.cells true 2 [.int .i64 p, s])).push (.cells true 3 [.int .i64 0, .int .i64 0, .bool false])).get H.next = some (.cells true 2 [.int .i64 p, s]) := by
    rw [get_push_ne (by simp)]; exact get_push_self _ _
  generalize (H.push (.cells true 2 [.int .i64 p, s])).push (.cells true 3 [.int .i64 0, .int .i64 0, .bool false]) = H2 at *
  have ld : loadA Try.prog 24 H2 H.next 0 = some (.agg #[.int .i64 p, s]) := by simp [loadA, g0]
  have hc : call32 lf (.fn 14 [.agg #[.int .i64 p, s]]) H2 = some (.ret (.int .i64 (whereL f).2), H2) := orC_hit (c32_check (rdFit_ext x2 hf))
  have r1 : ∃ e', evCode Try.prog (call32 lf) lf 30 none (cAt Try.f32 [1, 0, 0]) e [] H2 = some (.normal, e', [], H2) ∧
      e'.val 1 = e.val 1 ∧ e'.val 2 = e.val 2 ∧ e'.val 4 = e.val 4 ∧ e'.val 5 = e.val 5 ∧ e'.val 6 = .int .i64 (whereL f).2 := by
    generalize hr : evCode Try.prog (call32 lf) lf 30 none (cAt Try.f32 [1, 0, 0]) e [] H2 = out
    generalize call32 lf = call at hc hr
    simp [Try.f32, v2, ld, callA, hc] at hr
    subst hr
    exact ⟨_, rfl, by simp [v2]⟩
  obtain ⟨e', r1, w1, w2, w4, w5, w6⟩ := r1
  refine ⟨e', fun out h => ?_, w1.trans v1, w2.trans v2, w4.trans v4, w5.trans v5, w6⟩
  subst h
  rw [ev_then (c := cAt Try.f32 []) (b := cAt Try.f32 [1]) rfl r0, show cAt Try.f32 [1] = .seq (cAt Try.f32 [1, 0]) (cAt Try.f32 [1, 1]) from rfl, evCode_seq, ev_then (c := cAt Try.f32 [1, 0]) (b := cAt Try.f32 [1, 0, 1]) rfl r1]
  rfl

theorem d_end {call : CallF} {lf : Nat} {env : Env} {H : Heap} {b : Nat} {a w e : Int} {c : Bool} (h4 : env.val 4 = .pointer (some ⟨b, 0, none⟩)) (h5 : env.val 5 = .int .i64 e) (hb : H.get b = some (.cells true 3 [.int .i64 a, .int .i64 w, .bool c])) :
    fnEnd Try.prog call lf Try.f32 (some (.ret, env, [], H)) = some (.ret (.tuple #[.agg #[.int .i64 a, .int .i64 w, .bool c], .int .i64 e]), H) := by
  have := load65 hb
  simp [fnEnd, Try.f32, h4, h5, this]

theorem d_R2 {call : CallF} {lf : Nat} {env : Env} {H : Heap} {b : Nat} {x y z : Value} {e : Int} (v4 : env.val 4 = .pointer (some ⟨b, 0, none⟩)) (v6 : env.val 6 = .int .i64 e) (hb : H.get b = some (.cells true 3 [x, y, z])) :
    (e ≠ 0 → ∃ env', evCode Try.prog call lf 30 none (cAt Try.f32 [1, 0, 1]) env [] H = some (.ret, env', [], H.set b (.cells true 3 [.int .i64 0, .int .i64 0, .bool false])) ∧ env'.val 4 = env.val 4 ∧ env'.val 5 = .int .i64 e) ∧
    (e = 0 → ∃ env', evCode Try.prog call lf 30 none (cAt Try.f32 [1, 0, 1]) env [] H = some (.normal, env', [], H) ∧ env'.val 1 = env.val 1 ∧ env'.val 2 = env.val 2 ∧ env'.val 4 = env.val 4) := by
  have st := store65 (a := 0) (w := 0) (c := false) hb
  constructor
  · intro he
    generalize hr : evCode Try.prog call lf 30 none (cAt Try.f32 [1, 0, 1]) env [] H = out
    simp [Try.f32, v4, v6, he, bneT he, built65_0, st] at hr
    subst hr
    exact ⟨_, rfl, by simp [v4]⟩
  · rintro rfl
    generalize hr : evCode Try.prog call lf 30 none (cAt Try.f32 [1, 0, 1]) env [] H = out
    simp [Try.f32, v6] at hr
    subst hr
    exact ⟨_, rfl, by simp⟩

theorem d_R4 {lf : Nat} {env : Env} {H : Heap} {b b0 : Nat} {x y z : Value} {p s : Value} {xs : List (List Value)} {node : Int} (v1 : env.val 1 = .int .i64 node) (v2 : env.val 2 = .pointer (some ⟨b0, 0, none⟩)) (v4 : env.val 4 = .pointer (some ⟨b, 0, none⟩)) (hw : H.Wf) (hb : H.get b = some (.cells true 3 [x, y, z])) (h0 : H.get b0 = some (.cells true 2 [p, s])) (hs : rdS H 3 s = some xs) (hlen : xs.length < 1099511627776) :
    (¬ (0 ≤ node ∧ node < xs.length) → ∃ env' o, evCode Try.prog (call32 lf) lf 30 none (cAt Try.f32 [1, 1, 0]) env [] H = some (.ret, env', [], (H.push o).set b (.cells true 3 [.int .i64 0, .int .i64 0, .bool false])) ∧ env'.val 4 = env.val 4 ∧ env'.val 5 = .int .i64 4) ∧
    ((0 ≤ node ∧ node < xs.length) → ∃ env' o, evCode Try.prog (call32 lf) lf 30 none (cAt Try.f32 [1, 1, 0]) env [] H = some (.normal, env', [], H.push o) ∧ env'.val 1 = env.val 1 ∧ env'.val 2 = env.val 2 ∧ env'.val 4 = env.val 4) := by
  have hlen' := len_of (H' := H) (P := Try.prog) (t := 22) hs Try.underlying22
  have ld1 : loadA Try.prog 22 H b0 1 = some s := by simp [loadA, h0]
  have wr : IntKind.i64.wrap ((xs.length : Int) - 1) = (xs.length : Int) - 1 := wrapI (by omega) (by omega)
  have hb' : (H.push (.cells true 1 [.int .i64 node, .int .i64 0, .int .i64 ((xs.length : Int) - 1)])).get b = some (.cells true 3 [x, y, z]) := by
    rw [get_push_ne (Nat.ne_of_lt (hw.lt hb))]; exact hb
  have st := store65 (a := 0) (w := 0) (c := false) hb'
  have hc : call32 lf (.fn 48 [.slice (some ⟨H.next, 0, none⟩) 3 3]) (H.push (.cells true 1 [.int .i64 node, .int .i64 0, .int .i64 ((xs.length : Int) - 1)])) = some (.ret (.bool (decide (0 ≤ node ∧ node < xs.length))), H.push (.cells true 1 [.int .i64 node, .int .i64 0, .int .i64 ((xs.length : Int) - 1)])) := by
    rw [← within3]
    exact orC_hit (c32_within small3 rd3)
  generalize call32 lf = call at hc
  constructor
  · intro hn
    rw [decide_eq_false hn] at hc
    generalize hr : evCode Try.prog call lf 30 none (cAt Try.f32 [1, 1, 0]) env [] H = out
    simp [Try.f32, v1, v2, v4, ld1, hlen', wr, build3, callA, hc, built65_0, st] at hr
    subst hr
    exact ⟨_, _, rfl, by simp [v4]⟩
  · intro hn
    rw [decide_eq_true hn] at hc
    generalize hr : evCode Try.prog call lf 30 none (cAt Try.f32 [1, 1, 0]) env [] H = out
    simp [Try.f32, v1, v2, v4, ld1, hlen', wr, build3, callA, hc, built65_0, st] at hr
    subst hr
    exact ⟨_, _, rfl, by simp [v1, v2, v4]⟩

theorem d_R6 {lf : Nat} {env : Env} {H H4 : Heap} {b b0 b1 b2 : Nat} {x y z p s p0 s0 : Value} {node : Int} {ps : List Pl} {q : Pl} (v1 : env.val 1 = .int .i64 node) (v2 : env.val 2 = .pointer (some ⟨b0, 0, none⟩)) (v4 : env.val 4 = .pointer (some ⟨b, 0, none⟩)) (h0 : H.get b0 = some (.cells true 2 [p, s]))
    (hc : call32 lf (.fn 30 [.agg #[p, s]]) H = some (.ret (.pointer (some ⟨b2, 0, none⟩)), H4)) (hb : H4.get b = some (.cells true 3 [x, y, z])) (hb2 : H4.get b2 = some (.cells true 3 [p0, s0, .slice (some ⟨b1, 0, none⟩) ps.length ps.length])) (hb1 : H4.get b1 = some (.cells true 3 (flatP ps)))
    (hn0 : 0 ≤ node) (hq : ps[node.toNat]? = some q) :
    ∃ env', evCode Try.prog (call32 lf) lf 30 none (cAt Try.f32 [1, 1, 1]) env [] H = some (.ret, env', [], H4.set b (.cells true 3 [.int .i64 q.above, .int .i64 q.vars, .bool q.has])) ∧ env'.val 4 = env.val 4 ∧ env'.val 5 = .int .i64 0 := by
  have hl := (List.getElem?_eq_some_iff.1 hq).1
  have ld : loadA Try.prog 24 H b0 0 = some (.agg #[p, s]) := by simp [loadA, h0]
  have ld2 : loadA Try.prog 91 H4 b2 2 = some (.slice (some ⟨b1, 0, none⟩) ps.length ps.length) := by simp [loadA, hb2]
  have ix := indexP (b := b1) (c := ps.length) (m := ps.length) (i := node.toNat) hl
  rw [show ((node.toNat : Nat) : Int) = node by omega] at ix
  have lp := loadP3 hb1 hq
  have st := store65 (a := q.above) (w := q.vars) (c := q.has) hb
  generalize call32 lf = call at hc
  generalize hr : evCode Try.prog call lf 30 none (cAt Try.f32 [1, 1, 1]) env [] H = out
  simp [Try.f32, v1, v2, v4, ld, callA, hc, ld2, ix, lp, st] at hr
  subst hr
  exact ⟨_, rfl, by simp [v4]⟩

/-- placed. -/
theorem placed_run {lf : Nat} {H : Heap} {v : Value} {f : FunD} {node : Int} (hw : H.Wf) (hf : rdFit H v = some f) (hl : roomOf f = lf) :
    ∃ H', evFn Try.prog (call32 lf) lf 32 [v, .int .i64 node] H = some (.ret (.tuple #[.agg #[.int .i64 (placedL f node).1.above, .int .i64 (placedL f node).1.vars, .bool (placedL f node).1.has], .int .i64 (placedL f node).2]), H') ∧ Ext H H' := by
  obtain ⟨h1, h2⟩ := rdFit_inv hf
  obtain ⟨s, xs, rfl, hsm, hs, hlen, hx⟩ := rdFun_inv h1
  obtain ⟨_, hs1, _, _⟩ := rdS_one hs
  obtain ⟨e, hst, v1, v2, v4, v5, v6⟩ := d_R01 (lf := lf) (node := node) hs1 hw hf
  have x1 := Ext.push hw (.cells true 2 [.int .i64 f.params, s])
  have w1 := hw.push (.cells true 2 [.int .i64 f.params, s])
  have x2 := x1.to_push w1 (.cells true 3 [.int .i64 0, .int .i64 0, .bool false])
  have w2 := w1.push (.cells true 3 [.int .i64 0, .int .i64 0, .bool false])
  have g0 : ((H.push (.cells true 2 [.int .i64 f.params, s])).push (.cells true 3 [.int .i64 0, .int .i64 0, .bool false])).get H.next = some (.cells true 2 [.int .i64 f.params, s]) := by
    rw [get_push_ne (by simp)]; exact get_push_self _ _
  have g1 : ((H.push (.cells true 2 [.int .i64 f.params, s])).push (.cells true 3 [.int .i64 0, .int .i64 0, .bool false])).get (H.next + 1) = some (.cells true 3 [.int .i64 0, .int .i64 0, .bool false]) := get_push_self (H.push _) _
  have hn1 : H.get (H.next + 1) = none := hw _ (by omega)
  have hstart : ∀ out, evCode Try.prog (call32 lf) lf 30 none (cAt Try.f32 []) (envOf 0 [.agg #[.int .i64 f.params, s], .int .i64 node] .nil) [] H = out → evFn Try.prog (call32 lf) lf 32 [.agg #[.int .i64 f.params, s], .int .i64 node] H = fnEnd Try.prog (call32 lf) lf Try.f32 out := by
    intro out h
    rw [evFn_at Try.func32 body32 (by simp), Try.ntmps32, h]
  generalize hH2 : (H.push (.cells true 2 [.int .i64 f.params, s])).push (.cells true 3 [.int .i64 0, .int .i64 0, .bool false]) = H2 at *
  have hs2 := rdS_ext x2 hs
  have hrm := roomOf_node f
  rw [hl] at hrm
  cases hL : lookedL f with
  | error i =>
    have hp : placedL f node = (⟨0, 0, false⟩, 60) := by simp only [placedL, hL]
    have h6 : (whereL f).2 = 60 := by simp only [whereL, hL]
    obtain ⟨e', r2, k4, k5⟩ := (d_R2 (call := call32 lf) (lf := lf) v4 v6 g1).1 (by omega)
    have := hst _ r2
    rw [hp]
    rw [h6] at k5
    exact ⟨_, (hstart _ this).trans (d_end (k4.trans v4) k5 (get_set_self _ _ _)), x2.to_set hn1 _⟩
  | ok ps =>
    obtain ⟨rs, _, _, hpl⟩ := (looked_eq f).1 ps hL
    have h6 : (whereL f).2 = 0 := by simp only [whereL, hL]
    obtain ⟨e', r2, k1, k2, k4⟩ := (d_R2 (call := call32 lf) (lf := lf) v4 v6 g1).2 h6
    have hgo := hst _ r2
    simp only at hgo
    have hlb : xs.length < 1099511627776 := by
      have hc : ¬ (200 < f.nodes.length) := by
        intro hc
        have := (looked_eq f).1 ps hL
        obtain ⟨rs, hrs, _⟩ := this
        simp only [placesL] at hrs
        rw [if_pos (by omega)] at hrs
        cases hrs
      omega
    obtain ⟨dn, dy⟩ := d_R4 (lf := lf) (node := node) (k1.trans v1) (k2.trans v2) (k4.trans v4) w2 g1 g0 hs2 hlb
    by_cases hin : 0 ≤ node ∧ node < f.nodes.length
    · obtain ⟨e3, o, r3, m1, m2, m4⟩ := dy (by omega)
      have w3 := w2.push o
      have x3 := x2.to_push w2 o
      have g03 : (H2.push o).get H.next = some (.cells true 2 [.int .i64 f.params, s]) := by rw [get_push_ne (Nat.ne_of_lt (w2.lt g0))]; exact g0
      have g13 : (H2.push o).get (H.next + 1) = some (.cells true 3 [.int .i64 0, .int .i64 0, .bool false]) := by rw [get_push_ne (Nat.ne_of_lt (w2.lt g1))]; exact g1
      obtain ⟨_, lok⟩ := looked_run (lf := lf) w3 (rdFun_ext x3 h1) hrm.1 (fun x hx => ⟨h2 x hx, hrm.2 x hx⟩)
      obtain ⟨r, H4, c4, x4, lk⟩ := lok ps hL
      obtain ⟨b1, b2, p0, s0, rfl, hb2, hb1⟩ := lk.ret
      have hqe : ∃ q, ps[node.toNat]? = some q := ⟨_, List.getElem?_eq_getElem (by omega)⟩
      obtain ⟨q, hq⟩ := hqe
      have hp : placedL f node = (q, 0) := by simp only [placedL, hL, if_pos hin, List.getD_eq_getElem?_getD, hq, Option.getD_some]
      obtain ⟨e5, r5, n4, n5⟩ := d_R6 (lf := lf) (m1.trans (k1.trans v1)) (m2.trans (k2.trans v2)) (m4.trans (k4.trans v4)) g03 (call32_30.trans c4) (x4 _ _ g13) hb2 hb1 hin.1 hq
      rw [ev_then (c := cAt Try.f32 [1, 1]) (b := cAt Try.f32 [1, 1, 1]) rfl r3, r5] at hgo
      rw [hp]
      exact ⟨_, (hstart _ hgo).trans (d_end (n4.trans (m4.trans (k4.trans v4))) n5 (get_set_self _ _ _)), (x3.trans x4).to_set hn1 _⟩
    · obtain ⟨e3, o, r3, m4, m5⟩ := dn (by omega)
      have hp : placedL f node = (⟨0, 0, false⟩, 4) := by simp only [placedL, hL, if_neg hin]
      rw [ev_stop (c := cAt Try.f32 [1, 1]) (a := cAt Try.f32 [1, 1, 0]) (b := cAt Try.f32 [1, 1, 1]) rfl r3 (by simp)] at hgo
      rw [hp]
      exact ⟨_, (hstart _ hgo).trans (d_end (m4.trans (k4.trans v4)) m5 (get_set_self _ _ _)), (x2.to_push w2 o).to_set hn1 _⟩

noncomputable def placedC : Contract Try.prog := Contract.plain 32
  (fun args H => match args with
    | [v, .int .i64 node] => (rdFit H v).map fun f => .ret (.tuple #[.agg #[.int .i64 (placedL f node).1.above, .int .i64 (placedL f node).1.vars, .bool (placedL f node).1.has], .int .i64 (placedL f node).2])
    | _ => none) (by
    intro args H res hw hr
    split at hr
    · rename_i v node
      obtain ⟨f, hf, rfl⟩ := Option.map_eq_some_iff.1 hr
      obtain ⟨H', e1, e2⟩ := placed_run (node := node) hw hf rfl
      exact ⟨rfl, _, H', call32_ok _, _, e1, e2⟩
    · cases hr)
theorem placed_hit {cs : List (Contract Try.prog)} {H : Heap} {v : Value} {f : FunD} {node : Int} (h : rdFit H v = some f) : callOf (placedC :: cs) (.fn 32 [v, .int .i64 node]) H = some (.ret (.tuple #[.agg #[.int .i64 (placedL f node).1.above, .int .i64 (placedL f node).1.vars, .bool (placedL f node).1.has], .int .i64 (placedL f node).2]), H) :=
  callOf_hit rfl (by simp [placedC, Contract.plain, h])

/-- Depth. -/
noncomputable def depthC : Contract Try.prog := Contract.plain 15
  (fun args H => match args with
    | [v, .int .i64 node] => (rdFit H v).map fun f => .ret (.tuple #[.int .i64 (placedL f node).1.vars, .int .i64 (placedL f node).2])
    | _ => none) (by
    intro args H res hw hr
    split at hr
    · rename_i v node
      obtain ⟨f, hf, rfl⟩ := Option.map_eq_some_iff.1 hr
      obtain ⟨s, rfl, hs, _, _⟩ := rdFun_cells (rdFit_inv hf).1
      have hx := Ext.push hw (.cells true 2 [.int .i64 f.params, s])
      have hc := placed_hit (cs := []) (node := node) (rdFit_ext hx hf)
      have ld : loadA Try.prog 24 (H.push (.cells true 2 [.int .i64 f.params, s])) H.next 0 = some (.agg #[.int .i64 f.params, s]) := by
        simp [loadA, get_push_self]
      have st := store3 (H := H.push (.cells true 2 [.int .i64 f.params, s])) (a := .int .i64 (placedL f node).1.above) (b := .int .i64 (placedL f node).1.vars) (c := .bool (placedL f node).1.has) (x := .int .i64 0) (y := .int .i64 0) (z := .bool false) rfl rfl rfl 65 _ info65 size65
      have ld2 : loadA Try.prog 3 (((H.push (.cells true 2 [.int .i64 f.params, s])).push (.cells true 3 [.int .i64 0, .int .i64 0, .bool false])).set (H.next + 1) (.cells true 3 [.int .i64 (placedL f node).1.above, .int .i64 (placedL f node).1.vars, .bool (placedL f node).1.has])) (H.next + 1) 1 = some (.int .i64 (placedL f node).1.vars) := by
        simp [loadA, get_set_self]
      simp only [Heap.next_push] at st
      refine ⟨rfl, callOf [placedC], (((H.push (.cells true 2 [.int .i64 f.params, s])).push (.cells true 3 [.int .i64 0, .int .i64 0, .bool false])).set (H.next + 1) (.cells true 3 [.int .i64 (placedL f node).1.above, .int .i64 (placedL f node).1.vars, .bool (placedL f node).1.has])), callOf_ok _, 0, ?_, (hx.to_push (hw.push _) _).to_set (hw _ (by omega)) _⟩
      simp [Try.f15, hs, ld, callA, hc, st, ld2]
    · cases hr)

def parentL (f : FunD) (node : Int) : Int × Int := if (placedL f node).2 = 0 ∧ node = 0 then (0, 5) else ((placedL f node).1.above, (placedL f node).2)
/-- Parent. -/
noncomputable def parentC : Contract Try.prog := Contract.plain 17
  (fun args H => match args with
    | [v, .int .i64 node] => (rdFit H v).map fun f => .ret (.tuple #[.int .i64 (parentL f node).1, .int .i64 (parentL f node).2])
    | _ => none) (by
    intro args H res hw hr
    split at hr
    · rename_i v node
      obtain ⟨f, hf, rfl⟩ := Option.map_eq_some_iff.1 hr
      obtain ⟨s, rfl, hs, _, _⟩ := rdFun_cells (rdFit_inv hf).1
      have hx := Ext.push hw (.cells true 2 [.int .i64 f.params, s])
      have hc := placed_hit (cs := []) (node := node) (rdFit_ext hx hf)
      have ld : loadA Try.prog 24 (H.push (.cells true 2 [.int .i64 f.params, s])) H.next 0 = some (.agg #[.int .i64 f.params, s]) := by
        simp [loadA, get_push_self]
      have st := store3 (H := H.push (.cells true 2 [.int .i64 f.params, s])) (a := .int .i64 (placedL f node).1.above) (b := .int .i64 (placedL f node).1.vars) (c := .bool (placedL f node).1.has) (x := .int .i64 0) (y := .int .i64 0) (z := .bool false) rfl rfl rfl 65 _ info65 size65
      have ld2 : loadA Try.prog 3 (((H.push (.cells true 2 [.int .i64 f.params, s])).push (.cells true 3 [.int .i64 0, .int .i64 0, .bool false])).set (H.next + 1) (.cells true 3 [.int .i64 (placedL f node).1.above, .int .i64 (placedL f node).1.vars, .bool (placedL f node).1.has])) (H.next + 1) 0 = some (.int .i64 (placedL f node).1.above) := by
        simp [loadA, get_set_self]
      simp only [Heap.next_push] at st
      refine ⟨rfl, callOf [placedC], (((H.push (.cells true 2 [.int .i64 f.params, s])).push (.cells true 3 [.int .i64 0, .int .i64 0, .bool false])).set (H.next + 1) (.cells true 3 [.int .i64 (placedL f node).1.above, .int .i64 (placedL f node).1.vars, .bool (placedL f node).1.has])), callOf_ok _, 0, ?_, (hx.to_push (hw.push _) _).to_set (hw _ (by omega)) _⟩
      by_cases h0 : (placedL f node).2 = 0
      · by_cases h1 : node = 0
        · subst h1
          simp [Try.f17, hs, ld, callA, hc, st, ld2, h0, parentL]
        · simp [Try.f17, hs, ld, callA, hc, st, ld2, h0, h1, beqF h1, parentL]
      · simp [Try.f17, hs, ld, callA, hc, st, ld2, h0, beqF h0, parentL]
    · cases hr)
end Go.Proofs.Ytpopkajkekceiaa

namespace Go.Proofs.Ytpopkajkekceiaa
open Go Go.Abs
set_option maxRecDepth 100000
set_option linter.unusedSimpArgs false
set_option linter.unusedVariables false

/-! ### Once a node has a place it keeps it; at the end all have -/
def hasAt (ps : List Pl) (j : Nat) : Prop := ∃ p, ps[j]? = some p ∧ p.has = true
theorem kids_has {n i : Nat} {op vars : Int} : ∀ (l : List Int) (k : Nat) (ps ps' : List Pl), lookKids n i op vars k l ps = some ps' → ∀ j, hasAt ps j → hasAt ps' j
  | [], k, ps, ps', h, j, hj => by simp only [lookKids, Option.some.injEq] at h; subst h; exact hj
  | c :: cs, k, ps, ps', h, j, hj => by
    simp only [lookKids] at h
    split at h
    · split at h
      · rename_i p hp
        split at h
        · cases h
        · refine kids_has cs _ _ _ h j ?_
          obtain ⟨q, hq, hh⟩ := hj
          by_cases hc : c.toNat = j
          · subst hc
            exact ⟨_, by rw [List.getElem?_set_self (List.getElem?_eq_some_iff.1 hq).1], rfl⟩
          · exact ⟨q, by rw [List.getElem?_set_ne hc]; exact hq, hh⟩
      · cases h
    · cases h
theorem step_has {n i : Nat} {x : NodeD} {ps ps' : List Pl} (h : nodeStep n i x ps = some ps') : hasAt ps' i ∧ ∀ j, hasAt ps j → hasAt ps' j := by
  unfold nodeStep at h
  split at h
  · rename_i p hp
    split at h
    · rename_i hc
      split at h
      · have := kids_has _ _ _ _ h
        exact ⟨this i ⟨p, hp, hc.1⟩, this⟩
      · cases h
    · cases h
  · cases h
theorem from_has {n : Nat} : ∀ (xs : List NodeD) (i : Nat) (ps ps' : List Pl), lookFrom n i xs ps = .ok ps' → (∀ j, hasAt ps j → hasAt ps' j) ∧ ∀ j, i ≤ j → j < i + xs.length → hasAt ps' j
  | [], i, ps, ps', h => by simp only [lookFrom, Except.ok.injEq] at h; subst h; exact ⟨fun _ h => h, fun j h1 h2 => by simp at h2; omega⟩
  | x :: xs, i, ps, ps', h => by
    rw [lookFrom_cons] at h
    split at h
    · rename_i ps2 hs
      obtain ⟨a1, a2⟩ := step_has hs
      obtain ⟨b1, b2⟩ := from_has xs (i + 1) ps2 ps' h
      refine ⟨fun j hj => b1 j (a2 j hj), fun j h1 h2 => ?_⟩
      by_cases hj : j = i
      · subst hj; exact b1 j a1
      · exact b2 j (by omega) (by simp at h2; omega)
    · cases h
theorem looked_has {f : FunD} {ps : List Pl} (h : lookedL f = .ok ps) : ∀ j, j < f.nodes.length → hasAt ps j := by
  unfold lookedL at h
  split at h
  · intro j hj; exact (from_has _ _ _ _ h).2 j (by omega) (by omega)
  · cases h

def depthRL (f : FunD) (node : Int) : Int × Int := match placesL f with
  | .error _ => (0, 60)
  | .ok ps => if node < 0 ∨ (f.nodes.length : Int) ≤ node then (0, 4) else ((ps.getD node.toNat ⟨0, 0⟩).vars, 0)
def parentRL (f : FunD) (node : Int) : Int × Int := match placesL f with
  | .error _ => (0, 60)
  | .ok ps => if node < 0 ∨ (f.nodes.length : Int) ≤ node then (0, 4) else if node = 0 then (0, 5) else ((ps.getD node.toNat ⟨0, 0⟩).above, 0)

theorem depth_eq (f : FunD) (node : Int) : depthRL f node = ((placedL f node).1.vars, (placedL f node).2) := by
  obtain ⟨h1, h2⟩ := looked_eq f
  unfold depthRL placedL
  cases hl : lookedL f with
  | error a => rw [h2 a hl]
  | ok ps =>
    obtain ⟨rs, e, hr, hn⟩ := h1 ps hl
    rw [e]
    simp only
    by_cases hin : 0 ≤ node ∧ node < f.nodes.length
    · rw [if_pos hin, if_neg (by omega)]
      obtain ⟨p, hp, hh⟩ := looked_has hl node.toNat (by omega)
      obtain ⟨q, hq⟩ : ∃ q, rs[node.toNat]? = some q := ⟨_, List.getElem?_eq_getElem (by rw [← hr.len]; omega)⟩
      have := (hr.each _ p q hp hq).1 hh
      simp [List.getD_eq_getElem?_getD, hp, hq, this.1]
    · rw [if_neg hin, if_pos (by omega)]
theorem parent_eq (f : FunD) (node : Int) : parentRL f node = parentL f node := by
  obtain ⟨h1, h2⟩ := looked_eq f
  unfold parentRL parentL placedL
  cases hl : lookedL f with
  | error a => rw [h2 a hl]; simp
  | ok ps =>
    obtain ⟨rs, e, hr, hn⟩ := h1 ps hl
    rw [e]
    simp only
    by_cases hin : 0 ≤ node ∧ node < f.nodes.length
    · rw [if_pos hin, if_neg (by omega)]
      by_cases h0 : node = 0
      · rw [if_pos h0, if_pos ⟨rfl, h0⟩]
      · rw [if_neg h0, if_neg (fun h => h0 h.2)]
        obtain ⟨p, hp, hh⟩ := looked_has hl node.toNat (by omega)
        obtain ⟨q, hq⟩ : ∃ q, rs[node.toNat]? = some q := ⟨_, List.getElem?_eq_getElem (by rw [← hr.len]; omega)⟩
        have := (hr.each _ p q hp hq).1 hh
        have hne : node.toNat ≠ 0 := by omega
        simp [List.getD_eq_getElem?_getD, hp, hq, this.2.2.2, hne]
    · rw [if_neg hin, if_pos (by omega)]
      simp

/-- The reference's Depth. -/
noncomputable def depthRC : Contract Try.prog := Contract.plain 16
  (fun args H => match args with
    | [v, .int .i64 node] => (rdFit H v).map fun f => .ret (.tuple #[.int .i64 (depthRL f node).1, .int .i64 (depthRL f node).2])
    | _ => none) (by
    intro args H res hw hr
    split at hr
    · rename_i v node
      obtain ⟨f, hf, rfl⟩ := Option.map_eq_some_iff.1 hr
      obtain ⟨h1, h2⟩ := rdFit_inv hf
      obtain ⟨s, rfl, hs, _, _⟩ := rdFun_cells h1
      have hx := Ext.push hw (.cells true 2 [.int .i64 f.params, s])
      have ld : loadA Try.prog 24 (H.push (.cells true 2 [.int .i64 f.params, s])) H.next 0 = some (.agg #[.int .i64 f.params, s]) := by
        simp [loadA, get_push_self]
      obtain ⟨g1, g2⟩ := places_run (lf := roomOf f) (hw.push (.cells true 2 [.int .i64 f.params, s])) (rdFun_ext hx h1) h2 (roomOf_node f).1 (roomOf_node f).2
      cases hp : placesL f with
      | error i =>
        obtain ⟨H', e1, e2⟩ := g1 i hp
        have hc := (with_31 (lf := roomOf f)).trans e1
        refine ⟨rfl, evWith Try.prog (roomOf f) cR 1, H', evWith_ok _ _ _, 0, ?_, hx.trans e2⟩
        generalize evWith Try.prog (roomOf f) cR 1 = call at hc
        simp [Try.f16, hs, ld, callA, hc, depthRL, hp]
      | ok ps =>
        obtain ⟨b1, H', e1, e2, e3, e4⟩ := g2 ps hp
        have hc := (with_31 (lf := roomOf f)).trans e1
        refine ⟨rfl, evWith Try.prog (roomOf f) cR 1, H', evWith_ok _ _ _, 0, ?_, hx.trans e2⟩
        generalize evWith Try.prog (roomOf f) cR 1 = call at hc
        by_cases c1 : node < 0
        · simp [Try.f16, hs, ld, callA, hc, depthRL, hp, c1]
        · by_cases c2 : (f.nodes.length : Int) ≤ node
          · simp [Try.f16, hs, ld, callA, hc, depthRL, hp, c1, c2]
          · have ix := indexR (b := b1) (c := f.nodes.length) (m := f.nodes.length) (i := node) (by omega) (by omega)
            obtain ⟨q, hq⟩ : ∃ q, ps[node.toNat]? = some q := ⟨_, List.getElem?_eq_getElem (by omega)⟩
            obtain ⟨l0, l1⟩ := loadR e3 hq
            simp [Try.f16, hs, ld, callA, hc, depthRL, hp, c1, c2, ix, l1, List.getD_eq_getElem?_getD, hq]
    · cases hr)
/-- The reference's Parent. -/
noncomputable def parentRC : Contract Try.prog := Contract.plain 18
  (fun args H => match args with
    | [v, .int .i64 node] => (rdFit H v).map fun f => .ret (.tuple #[.int .i64 (parentRL f node).1, .int .i64 (parentRL f node).2])
    | _ => none) (by
    intro args H res hw hr
    split at hr
    · rename_i v node
      obtain ⟨f, hf, rfl⟩ := Option.map_eq_some_iff.1 hr
      obtain ⟨h1, h2⟩ := rdFit_inv hf
      obtain ⟨s, rfl, hs, _, _⟩ := rdFun_cells h1
      have hx := Ext.push hw (.cells true 2 [.int .i64 f.params, s])
      have ld : loadA Try.prog 24 (H.push (.cells true 2 [.int .i64 f.params, s])) H.next 0 = some (.agg #[.int .i64 f.params, s]) := by
        simp [loadA, get_push_self]
      obtain ⟨g1, g2⟩ := places_run (lf := roomOf f) (hw.push (.cells true 2 [.int .i64 f.params, s])) (rdFun_ext hx h1) h2 (roomOf_node f).1 (roomOf_node f).2
      cases hp : placesL f with
      | error i =>
        obtain ⟨H', e1, e2⟩ := g1 i hp
        have hc := (with_31 (lf := roomOf f)).trans e1
        refine ⟨rfl, evWith Try.prog (roomOf f) cR 1, H', evWith_ok _ _ _, 0, ?_, hx.trans e2⟩
        generalize evWith Try.prog (roomOf f) cR 1 = call at hc
        simp [Try.f18, hs, ld, callA, hc, parentRL, hp]
      | ok ps =>
        obtain ⟨b1, H', e1, e2, e3, e4⟩ := g2 ps hp
        have hc := (with_31 (lf := roomOf f)).trans e1
        refine ⟨rfl, evWith Try.prog (roomOf f) cR 1, H', evWith_ok _ _ _, 0, ?_, hx.trans e2⟩
        generalize evWith Try.prog (roomOf f) cR 1 = call at hc
        by_cases c1 : node < 0
        · simp [Try.f18, hs, ld, callA, hc, parentRL, hp, c1]
        · by_cases c2 : (f.nodes.length : Int) ≤ node
          · simp [Try.f18, hs, ld, callA, hc, parentRL, hp, c1, c2]
          · by_cases c3 : node = 0
            · have c3' : (node == 0) = true := by simp [c3]
              have hp0 : parentRL f node = (0, 5) := by simp only [parentRL, hp]; rw [if_neg (by omega), if_pos c3]
              rw [hp0]
              simp [Try.f18, hs, ld, callA, hc, c1, c2, -beq_iff_eq, c3']
            · have ix := indexR (b := b1) (c := f.nodes.length) (m := f.nodes.length) (i := node) (by omega) (by omega)
              obtain ⟨q, hq⟩ : ∃ q, ps[node.toNat]? = some q := ⟨_, List.getElem?_eq_getElem (by omega)⟩
              obtain ⟨l0, l1⟩ := loadR e3 hq
              simp [Try.f18, hs, ld, callA, hc, parentRL, hp, c1, c2, c3, beqF c3, ix, l0, List.getD_eq_getElem?_getD, hq]
    · cases hr)
end Go.Proofs.Ytpopkajkekceiaa

namespace Go.Proofs.Ytpopkajkekceiaa
open Go Go.Abs
set_option maxRecDepth 100000
set_option linter.unusedSimpArgs false
set_option linter.unusedVariables false

noncomputable def c4 : List (Contract Try.prog) := [fewC, worksC, numC, depthC, depthRC, parentC, parentRC]
theorem c4_few {H : Heap} {v : Value} {f : FunD} (h : rdFun H v = some f) : callOf c4 (.fn 9 [v]) H = some (.ret (.bool (fewL f)), H) := few_hit h
theorem c4_works {H : Heap} : callOf c4 (.fn 10 []) H = some (.ret (.bool true), H) := by
  unfold c4; rw [callOf_miss (by decide)]; exact callOf_hit rfl rfl
theorem c4_num {H : Heap} {n : Int} : callOf c4 (.fn 13 [.int .i64 n]) H = some (.ret (.int .i64 n), H) := by
  unfold c4; rw [callOf_miss (by decide), callOf_miss (by decide)]; exact callOf_hit rfl rfl
theorem c4_depth {H : Heap} {v : Value} {f : FunD} {n : Int} (h : rdFit H v = some f) : callOf c4 (.fn 15 [v, .int .i64 n]) H = some (.ret (.tuple #[.int .i64 (placedL f n).1.vars, .int .i64 (placedL f n).2]), H) := by
  unfold c4; rw [callOf_miss (by decide), callOf_miss (by decide), callOf_miss (by decide)]
  refine callOf_hit rfl ?_
  simp [depthC, Contract.plain, h]
theorem c4_depthR {H : Heap} {v : Value} {f : FunD} {n : Int} (h : rdFit H v = some f) : callOf c4 (.fn 16 [v, .int .i64 n]) H = some (.ret (.tuple #[.int .i64 (placedL f n).1.vars, .int .i64 (placedL f n).2]), H) := by
  unfold c4; rw [callOf_miss (by decide), callOf_miss (by decide), callOf_miss (by decide), callOf_miss (by decide)]
  refine callOf_hit rfl ?_
  simp [depthRC, Contract.plain, h, depth_eq]
theorem c4_parent {H : Heap} {v : Value} {f : FunD} {n : Int} (h : rdFit H v = some f) : callOf c4 (.fn 17 [v, .int .i64 n]) H = some (.ret (.tuple #[.int .i64 (parentL f n).1, .int .i64 (parentL f n).2]), H) := by
  unfold c4; rw [callOf_miss (by decide), callOf_miss (by decide), callOf_miss (by decide), callOf_miss (by decide), callOf_miss (by decide)]
  refine callOf_hit rfl ?_
  simp [parentC, Contract.plain, h]
theorem c4_parentR {H : Heap} {v : Value} {f : FunD} {n : Int} (h : rdFit H v = some f) : callOf c4 (.fn 18 [v, .int .i64 n]) H = some (.ret (.tuple #[.int .i64 (parentL f n).1, .int .i64 (parentL f n).2]), H) := by
  unfold c4; rw [callOf_miss (by decide), callOf_miss (by decide), callOf_miss (by decide), callOf_miss (by decide), callOf_miss (by decide), callOf_miss (by decide)]
  refine callOf_hit rfl ?_
  simp [parentRC, Contract.plain, h, parent_eq]

theorem tells_run {H : Heap} {v : Value} {f : FunD} {node : Int} (hw : H.Wf) (hf : rdFun H v = some f) : ∃ H', evFn Try.prog (callOf c4) 0 4 [v, .int .i64 node] H = some (.ret (.bool true), H') := by
  obtain ⟨s, rfl, hs, _, _⟩ := rdFun_cells hf
  have hx := Ext.push hw (.cells true 2 [.int .i64 f.params, s])
  have ld : loadA Try.prog 24 (H.push (.cells true 2 [.int .i64 f.params, s])) H.next 0 = some (.agg #[.int .i64 f.params, s]) := by
    simp [loadA, get_push_self]
  have hf' := rdFun_ext hx hf
  have k1 := c4_few hf'
  refine ⟨H.push (.cells true 2 [.int .i64 f.params, s]), ?_⟩
  cases hfew : fewL f with
  | false =>
    rw [hfew] at k1
    simp [Try.f4, hs, ld, callA, k1, c4_works]
  | true =>
    rw [hfew] at k1
    have hfit := rdFit_of hf' (few_fits hfew)
    simp [Try.f4, hs, ld, callA, k1, c4_works, c4_depth hfit, c4_depthR hfit, c4_parent hfit, c4_parentR hfit, c4_num]
end Go.Proofs.Ytpopkajkekceiaa
