/-
  A part of a proof: texts laid behind one another (W50, W51, W52, W53, W54, W55, W56).
-/
import Derived.Test.YtpopkajkekceiaaGW6
namespace Go.Proofs.Ytpopkajkekceiaa
open Go Go.Abs
set_option maxRecDepth 100000
set_option linter.unusedSimpArgs false
set_option linter.unusedVariables false

theorem evCode_range {call : CallF} {lf nt : Nat} {env : Env} {ds : List ADef} {H : Heap} {f : Operand} {ps : Array Tmp} {a b : Code} {g : FuncId} {first captured : Array Value} (h : evA env f = some (.func (.func g) first captured)) (hb : bodied Try.prog g = true) :
    evCode Try.prog call lf nt none (.rangeFunc f ps a b) env ds H = rangeEnd (H.next + 1) env (.mark H.next :: ds) (call (.fn g (first.toList ++ [.func (.yield (H.next + 1)) #[] #[]] ++ captured.toList)) ((H.push .defs).push (theLoop Try.prog nt env ps a b))) := by
  simp only [evCode, h, hb]

theorem h_R0 {call : CallF} {lf : Nat} {H : Heap} {p s : Value} (ho : oneC p = true) (hs1 : oneC s = true) :
    ∃ e, evCode Try.prog call lf 237 none (cAt Try.f6 [0]) (envOf 0 [.agg #[p, s]] .nil) [] H = some (.normal, e, [], (H.push (.cells true 2 [p, s])).push (.cells true 1 [.bool false])) ∧ e.val 1 = .pointer (some ⟨H.next, 0, none⟩) ∧ e.val 2 = .pointer (some ⟨H.next + 1, 0, none⟩) := by
  generalize hr : evCode Try.prog call lf 237 none (cAt Try.f6 [0]) (envOf 0 [.agg #[p, s]] .nil) [] H = out
  simp [Try.f6, ho, hs1] at hr
  subst hr
  exact ⟨_, rfl, by simp⟩
theorem h_R1 {lf : Nat} {env : Env} {H : Heap} {b1 b2 : Nat} {p s : Value} {b : Bool} (g1 : H.get b1 = some (.cells true 2 [p, s])) (g2 : H.get b2 = some (.cells true 1 [.bool false])) (hc : callH lf (.fn 9 [.agg #[p, s]]) H = some (.ret (.bool b), H)) (e1 : env.val 1 = .pointer (some ⟨b1, 0, none⟩)) (e2 : env.val 2 = .pointer (some ⟨b2, 0, none⟩)) :
    (b = true → ∃ e, evCode Try.prog (callH lf) lf 237 none (cAt Try.f6 [1, 0]) env [] H = some (.normal, e, [], H) ∧ e.val 1 = env.val 1 ∧ e.val 2 = env.val 2) ∧
    (b = false → ∃ e, evCode Try.prog (callH lf) lf 237 none (cAt Try.f6 [1, 0]) env [] H = some (.ret, e, [], H.set b2 (.cells true 1 [.bool true])) ∧ e.val 2 = env.val 2) := by
  have ld : loadA Try.prog 24 H b1 0 = some (.agg #[p, s]) := by simp [loadA, g1]
  have hw := callH_works (lf := lf) (H := H)
  have st : storeA Try.prog 4 H b2 0 (.bool true) = some (H.set b2 (.cells true 1 [.bool true])) := by
    simp [storeA, g2, putL]
  generalize callH lf = call at hc hw
  constructor
  · rintro rfl
    generalize hr : evCode Try.prog call lf 237 none (cAt Try.f6 [1, 0]) env [] H = out
    simp [Try.f6, e1, e2, ld, callA, hc] at hr
    subst hr
    exact ⟨_, rfl, by simp [e1, e2]⟩
  · rintro rfl
    generalize hr : evCode Try.prog call lf 237 none (cAt Try.f6 [1, 0]) env [] H = out
    simp [Try.f6, e1, e2, ld, callA, hc, hw, st] at hr
    subst hr
    exact ⟨_, rfl, by simp [e2]⟩
theorem h_R34 {lf : Nat} {env : Env} {H H' : Heap} {b1 bt : Nat} {p s : Value} (g1 : H.get b1 = some (.cells true 2 [p, s])) (hc : callH lf (.fn 21 [.agg #[p, s]]) H = some (.ret (.func (.func 52) #[] #[.pointer (some ⟨bt, 0, none⟩)]), H')) (e1 : env.val 1 = .pointer (some ⟨b1, 0, none⟩)) :
    ∃ e, evCode Try.prog (callH lf) lf 237 none (cAt Try.f6 [1, 1]) env [] H = evCode Try.prog (callH lf) lf 237 none (cAt Try.f6 [1, 1, 1, 1]) e [] H' ∧ e.val 1 = env.val 1 ∧ e.val 2 = env.val 2 ∧ e.val 3 = .func (.func 52) #[] #[.pointer (some ⟨bt, 0, none⟩)] := by
  have ld : loadA Try.prog 24 H b1 0 = some (.agg #[p, s]) := by simp [loadA, g1]
  generalize callH lf = call at hc
  have r3 : ∃ e, evCode Try.prog call lf 237 none (cAt Try.f6 [1, 1, 0]) env [] H = some (.normal, e, [], H') ∧ e.val 1 = env.val 1 ∧ e.val 2 = env.val 2 ∧ e.val 3 = .func (.func 52) #[] #[.pointer (some ⟨bt, 0, none⟩)] := by
    generalize hr : evCode Try.prog call lf 237 none (cAt Try.f6 [1, 1, 0]) env [] H = out
    simp [Try.f6, e1, ld, callA, hc] at hr
    subst hr
    exact ⟨_, rfl, by simp [e1]⟩
  obtain ⟨e, r3, k1, k2, k3⟩ := r3
  have r4 : ∃ e', evCode Try.prog call lf 237 none (cAt Try.f6 [1, 1, 1, 0]) e [] H' = some (.normal, e', [], H') ∧ e'.val 1 = e.val 1 ∧ e'.val 2 = e.val 2 ∧ e'.val 3 = e.val 3 := by
    generalize hr : evCode Try.prog call lf 237 none (cAt Try.f6 [1, 1, 1, 0]) e [] H' = out
    simp [Try.f6, k3, eqA, Try.underlying45] at hr
    subst hr
    exact ⟨_, rfl, by simp [k3]⟩
  obtain ⟨e', r4, m1, m2, m3⟩ := r4
  exact ⟨e', by rw [ev_then (c := cAt Try.f6 [1, 1]) (b := cAt Try.f6 [1, 1, 1]) rfl r3, ev_then (c := cAt Try.f6 [1, 1, 1]) (b := cAt Try.f6 [1, 1, 1, 1]) rfl r4], m1.trans k1, m2.trans k2, m3.trans k3⟩
theorem h_R6 {call : CallF} {lf : Nat} {env : Env} {H : Heap} {b1 n : Nat} {p s : Value} {xs : List (List Value)} (g1 : H.get b1 = some (.cells true 2 [p, s])) (hs : rdS H 3 s = some xs) (hn : xs.length = n) (hn2 : n ≤ 1000) (e1 : env.val 1 = .pointer (some ⟨b1, 0, none⟩)) :
    ∃ e, evCode Try.prog call lf 237 none (cAt Try.f6 [1, 1, 1, 1, 0]) env [] H = some (.normal, e, [], ((H.push (.cells true 1 (intsV (List.replicate n 0)))).push (.cells true 1 [.slice none 0 0])).set (H.next + 1) (.cells true 1 [.slice (some ⟨H.next, 0, none⟩) n n])) ∧
      e.val 1 = env.val 1 ∧ e.val 2 = env.val 2 ∧ e.val 3 = env.val 3 ∧ e.val 4 = .pointer (some ⟨H.next + 1, 0, none⟩) := by
  have hb := len_of (H' := H) (P := Try.prog) (t := 22) hs Try.underlying22
  rw [hn] at hb
  have ld1 : loadA Try.prog 22 H b1 1 = some s := by simp [loadA, g1]
  have mk := make38 (H := H) hn2
  have st : storeA Try.prog 38 ((H.push (.cells true 1 (intsV (List.replicate n 0)))).push (.cells true 1 [.slice none 0 0])) (H.next + 1) 0 (.slice (some ⟨H.next, 0, none⟩) n n) = some (((H.push (.cells true 1 (intsV (List.replicate n 0)))).push (.cells true 1 [.slice none 0 0])).set (H.next + 1) (.cells true 1 [.slice (some ⟨H.next, 0, none⟩) n n])) := by
    have hg : ((H.push (.cells true 1 (intsV (List.replicate n 0)))).push (.cells true 1 [.slice none 0 0])).get (H.next + 1) = some (.cells true 1 [.slice none 0 0]) := get_push_self (H.push _) _
    simp [storeA, hg, putL]
  generalize hr : evCode Try.prog call lf 237 none (cAt Try.f6 [1, 1, 1, 1, 0]) env [] H = out
  simp [Try.f6, e1, ld1, hb, mk, st] at hr
  subst hr
  exact ⟨_, rfl, by simp [e1]⟩
theorem h_R78 {call : CallF} {lf : Nat} {env : Env} {H : Heap} {v3 : Value} (e3 : env.val 3 = v3) :
    ∃ e, evCode Try.prog call lf 237 none (cAt Try.f6 [1, 1, 1, 1, 1]) env [] H = (match evCode Try.prog call lf 237 none (cAt Try.f6 [1, 1, 1, 1, 1, 1, 0, 1]) e [] ((H.push (.cells true 1 [.int .i64 0])).set H.next (.cells true 1 [.int .i64 0])) with
        | some (.normal, e', ds, h) => evCode Try.prog call lf 237 none (cAt Try.f6 [1, 1, 1, 1, 1, 1, 1]) e' ds h
        | r => r) ∧ e.val 1 = env.val 1 ∧ e.val 2 = env.val 2 ∧ e.val 4 = env.val 4 ∧ e.val 5 = .pointer (some ⟨H.next, 0, none⟩) ∧ e.val 32 = v3 := by
  have st := store1i (H := H.push (.cells true 1 [.int .i64 0])) (b := H.next) (v := 0) (get_push_self _ _)
  have r7 : ∃ e, evCode Try.prog call lf 237 none (cAt Try.f6 [1, 1, 1, 1, 1, 0]) env [] H = some (.normal, e, [], (H.push (.cells true 1 [.int .i64 0])).set H.next (.cells true 1 [.int .i64 0])) ∧ e.val 1 = env.val 1 ∧ e.val 2 = env.val 2 ∧ e.val 3 = env.val 3 ∧ e.val 4 = env.val 4 ∧ e.val 5 = .pointer (some ⟨H.next, 0, none⟩) := by
    generalize hr : evCode Try.prog call lf 237 none (cAt Try.f6 [1, 1, 1, 1, 1, 0]) env [] H = out
    simp [Try.f6, st] at hr
    subst hr
    exact ⟨_, rfl, by simp⟩
  obtain ⟨e, r7, k1, k2, k3, k4, k5⟩ := r7
  generalize (H.push (.cells true 1 [.int .i64 0])).set H.next (.cells true 1 [.int .i64 0]) = H2 at *
  have r8 : ∃ e', evCode Try.prog call lf 237 none (cAt Try.f6 [1, 1, 1, 1, 1, 1, 0, 0]) e [] H2 = some (.normal, e', [], H2) ∧ e'.val 1 = e.val 1 ∧ e'.val 2 = e.val 2 ∧ e'.val 4 = e.val 4 ∧ e'.val 5 = e.val 5 ∧ e'.val 32 = v3 := by
    generalize hr : evCode Try.prog call lf 237 none (cAt Try.f6 [1, 1, 1, 1, 1, 1, 0, 0]) e [] H2 = out
    simp [Try.f6, k3, e3] at hr
    subst hr
    exact ⟨_, rfl, by simp⟩
  obtain ⟨e', r8, m1, m2, m4, m5, m32⟩ := r8
  refine ⟨e', ?_, m1.trans k1, m2.trans k2, m4.trans k4, m5.trans k5, m32⟩
  rw [ev_then (c := cAt Try.f6 [1, 1, 1, 1, 1]) (b := cAt Try.f6 [1, 1, 1, 1, 1, 1]) rfl r7, show cAt Try.f6 [1, 1, 1, 1, 1, 1] = .seq (cAt Try.f6 [1, 1, 1, 1, 1, 1, 0]) (cAt Try.f6 [1, 1, 1, 1, 1, 1, 1]) from rfl, evCode_seq,
    ev_then (c := cAt Try.f6 [1, 1, 1, 1, 1, 1, 0]) (b := cAt Try.f6 [1, 1, 1, 1, 1, 1, 0, 1]) rfl r8]
  rfl
end Go.Proofs.Ytpopkajkekceiaa

namespace Go.Proofs.Ytpopkajkekceiaa
open Go Go.Abs
set_option maxRecDepth 100000
set_option linter.unusedSimpArgs false
set_option linter.unusedVariables false

structure HEnd (f : FunD) (R : List Nat) (H0 : Heap) (b1 b2 b4 wb b5 d : Nat) (p s : Value) (cnt : Nat) (H : Heap) : Prop where
  wf : H.Wf
  ext : Ext H0 H
  g1 : H.get b1 = some (.cells true 2 [p, s])
  g2 : H.get b2 = some (.cells true 1 [.bool false])
  g4 : H.get b4 = some (.cells true 1 [.slice (some ⟨wb, 0, none⟩) f.nodes.length f.nodes.length])
  gw : ∃ W, H.get wb = some (.cells true 1 (intsV W)) ∧ WOk R cnt f.nodes.length W
  g5 : H.get b5 = some (.cells true 1 [.int .i64 (cnt : Int)])
  gd : H.get d = some .defs
  nd : b2 ≠ d

theorem wok0 (R : List Nat) (n : Nat) : WOk R 0 n (List.replicate n 0) :=
  ⟨by simp, fun i x hi => by omega, fun x hx _ => by simp [hx]⟩

theorem h_start {lf : Nat} {H : Heap} {v : Value} {f : FunD} (hlf : 300 ≤ lf) (hw : H.Wf) (hf : rdFun H v = some f) (hfew : fewL f = true) :
    ∃ E d b1 b2 b4 wb b5 R cnt H' s, v = .agg #[.int .i64 f.params, s] ∧ evCode Try.prog (callH lf) lf 237 none (cAt Try.f6 []) (envOf 0 [v] .nil) [] H = evCode Try.prog (callH lf) lf 237 none (cAt Try.f6 [1, 1, 1, 1, 1, 1, 1]) E [.mark d] H' ∧
      E.val 1 = .pointer (some ⟨b1, 0, none⟩) ∧ E.val 2 = .pointer (some ⟨b2, 0, none⟩) ∧ E.val 4 = .pointer (some ⟨b4, 0, none⟩) ∧ E.val 5 = .pointer (some ⟨b5, 0, none⟩) ∧
      HEnd f R H b1 b2 b4 wb b5 d (.int .i64 f.params) s cnt H' ∧
      ((∃ ps, lookedL f = .ok ps ∧ DI (kidsOf f) f.nodes.length [] R.reverse ∧ cnt = f.nodes.length) ∨ (∃ i, lookedL f = .error i ∧ cnt = 0)) := by
  obtain ⟨s, xs, rfl, _, hs, hlen, hx⟩ := rdFun_inv hf
  obtain ⟨_, hs1, _, _⟩ := rdS_one hs
  have hfits := few_fits hfew
  have hn300 : f.nodes.length ≤ 300 := by
    unfold fewL at hfew
    simp only [Bool.and_eq_true, decide_eq_true_eq] at hfew
    exact hfew.2
  obtain ⟨e0, r0, v1, v2⟩ := h_R0 (call := callH lf) (lf := lf) (H := H) (p := .int .i64 f.params) rfl hs1
  have w1 := hw.push (.cells true 2 [.int .i64 f.params, s])
  have w2 := w1.push (.cells true 1 [.bool false])
  have x2 := (Ext.push hw (.cells true 2 [.int .i64 f.params, s])).to_push w1 (.cells true 1 [.bool false])
  have g1 : ((H.push (.cells true 2 [.int .i64 f.params, s])).push (.cells true 1 [.bool false])).get H.next = some (.cells true 2 [.int .i64 f.params, s]) := by rw [get_push_ne (by simp)]; exact get_push_self _ _
  have g2 : ((H.push (.cells true 2 [.int .i64 f.params, s])).push (.cells true 1 [.bool false])).get (H.next + 1) = some (.cells true 1 [.bool false]) := get_push_self (H.push _) _
  have hnx : ((H.push (.cells true 2 [.int .i64 f.params, s])).push (.cells true 1 [.bool false])).next = H.next + 2 := by simp
  generalize (H.push (.cells true 2 [.int .i64 f.params, s])).push (.cells true 1 [.bool false]) = H2 at *
  have hf2 := rdFun_ext x2 hf
  have hfit2 := rdFit_of hf2 hfits
  obtain ⟨e1, r1, m1, m2⟩ := (h_R1 (lf := lf) g1 g2 (callH_few hf2) v1 v2).1 hfew
  obtain ⟨ook, oerr⟩ := order_run (lf := lf) w2 hfit2 hlf
  -- what Order gives
  have horder : ∃ bt H3, callH lf (.fn 21 [.agg #[.int .i64 f.params, s]]) H2 = some (.ret (.func (.func 52) #[] #[.pointer (some ⟨bt, 0, none⟩)]), H3) ∧ Ext H2 H3 ∧ H3.Wf ∧ H2.next ≤ H3.next ∧ H2.next ≤ bt ∧
      ((∃ ps out br, lookedL f = .ok ps ∧ DI (kidsOf f) f.nodes.length [] out ∧ H2.next ≤ br ∧ H3.get bt = some (.cells true 1 [.slice (some ⟨br, 0, none⟩) f.nodes.length BIG]) ∧ H3.get br = some (.cells true 2 (out.map (rowOf f)).reverse.flatten)) ∨
       (∃ i, lookedL f = .error i ∧ H3.get bt = some (.cells true 1 [.slice none 0 0]))) := by
    have hcc : ∀ {args : List Value} {H : Heap}, callH lf (.fn 21 args) H = evFn Try.prog (callI lf) lf 21 args H := callH_fn (by decide) (by decide) (by decide) (by decide) (by decide) (by decide)
    cases hL : lookedL f with
    | ok ps =>
      obtain ⟨out, bt, br, H3, c, a1, a2, a3, a4, a5, a6, a7, a8, _⟩ := ook ps hL
      exact ⟨bt, H3, hcc.trans c, a1, a2, a3, a5, .inl ⟨ps, out, br, rfl, a4, a6, a7, a8⟩⟩
    | error i =>
      obtain ⟨bt, H3, c, a1, a2, a3, a4, a5⟩ := oerr i hL
      exact ⟨bt, H3, hcc.trans c, a1, a2, a3, a4, .inr ⟨i, rfl, a5⟩⟩
  obtain ⟨bt, H3, c21, x23, w3, hn3, hbt, hcase⟩ := horder
  obtain ⟨e2, r3, k1, k2, k3⟩ := h_R34 (lf := lf) (env := e1) g1 c21 (m1.trans v1)
  have g13 := x23 _ _ g1
  have g23 := x23 _ _ g2
  obtain ⟨e3, r6, y1, y2, y3, y4⟩ := h_R6 (call := callH lf) (lf := lf) (env := e2) g13 (rdS_ext (x2.trans x23) hs) hlen (by omega) (k1.trans (m1.trans v1))
  obtain ⟨e4, r7, z1, z2, z4, z5, z32⟩ := h_R78 (call := callH lf) (lf := lf) (env := e3) (H := ((H3.push (.cells true 1 (intsV (List.replicate f.nodes.length 0)))).push (.cells true 1 [.slice none 0 0])).set (H3.next + 1) (.cells true 1 [.slice (some ⟨H3.next, 0, none⟩) f.nodes.length f.nodes.length])) (y3.trans k3)
  -- the heap ahead of the range
  have K4 : Kept H3 (((((H3.push (.cells true 1 (intsV (List.replicate f.nodes.length 0)))).push (.cells true 1 [.slice none 0 0])).set (H3.next + 1) (.cells true 1 [.slice (some ⟨H3.next, 0, none⟩) f.nodes.length f.nodes.length])).push (.cells true 1 [.int .i64 0])).set (H3.next + 2) (.cells true 1 [.int .i64 0])) none :=
    (((((Kept.refl w3 none).push _).push _).set (by omega) (by simp) _).push _).set (by omega) (by simp) _
  have q0 : (((((H3.push (.cells true 1 (intsV (List.replicate f.nodes.length 0)))).push (.cells true 1 [.slice none 0 0])).set (H3.next + 1) (.cells true 1 [.slice (some ⟨H3.next, 0, none⟩) f.nodes.length f.nodes.length])).push (.cells true 1 [.int .i64 0])).set (H3.next + 2) (.cells true 1 [.int .i64 0])).get H3.next = some (.cells true 1 (intsV (List.replicate f.nodes.length 0))) := by
    rw [get_set_ne (by omega), get_push_ne (by simp; omega), get_set_ne (by omega), get_push_ne (by simp), get_push_self]
  have q1 : (((((H3.push (.cells true 1 (intsV (List.replicate f.nodes.length 0)))).push (.cells true 1 [.slice none 0 0])).set (H3.next + 1) (.cells true 1 [.slice (some ⟨H3.next, 0, none⟩) f.nodes.length f.nodes.length])).push (.cells true 1 [.int .i64 0])).set (H3.next + 2) (.cells true 1 [.int .i64 0])).get (H3.next + 1) = some (.cells true 1 [.slice (some ⟨H3.next, 0, none⟩) f.nodes.length f.nodes.length]) := by
    rw [get_set_ne (by omega), get_push_ne (by simp), get_set_self]
  have q2 : (((((H3.push (.cells true 1 (intsV (List.replicate f.nodes.length 0)))).push (.cells true 1 [.slice none 0 0])).set (H3.next + 1) (.cells true 1 [.slice (some ⟨H3.next, 0, none⟩) f.nodes.length f.nodes.length])).push (.cells true 1 [.int .i64 0])).set (H3.next + 2) (.cells true 1 [.int .i64 0])).get (H3.next + 2) = some (.cells true 1 [.int .i64 0]) := get_set_self _ _ _
  have hn4 : (((((H3.push (.cells true 1 (intsV (List.replicate f.nodes.length 0)))).push (.cells true 1 [.slice none 0 0])).set (H3.next + 1) (.cells true 1 [.slice (some ⟨H3.next, 0, none⟩) f.nodes.length f.nodes.length])).push (.cells true 1 [.int .i64 0])).set (H3.next + 2) (.cells true 1 [.int .i64 0])).next = H3.next + 3 := by simp
  simp only [Heap.next_set, Heap.next_push] at r7 z5
  generalize ((((H3.push (.cells true 1 (intsV (List.replicate f.nodes.length 0)))).push (.cells true 1 [.slice none 0 0])).set (H3.next + 1) (.cells true 1 [.slice (some ⟨H3.next, 0, none⟩) f.nodes.length f.nodes.length])).push (.cells true 1 [.int .i64 0])).set (H3.next + 2) (.cells true 1 [.int .i64 0]) = H4 at *
  have x4 : Ext H H4 := (x2.trans x23).trans (K4.ext w3)
  have t1 := z1.trans (y1.trans (k1.trans (m1.trans v1)))
  have t2 := z2.trans (y2.trans (k2.trans (m2.trans v2)))
  have t4 := z4.trans y4
  have hpre : evCode Try.prog (callH lf) lf 237 none (cAt Try.f6 []) (envOf 0 [.agg #[.int .i64 f.params, s]] .nil) [] H = (match evCode Try.prog (callH lf) lf 237 none (cAt Try.f6 [1, 1, 1, 1, 1, 1, 0, 1]) e4 [] H4 with
        | some (.normal, e', ds, h) => evCode Try.prog (callH lf) lf 237 none (cAt Try.f6 [1, 1, 1, 1, 1, 1, 1]) e' ds h
        | r => r) := by
    rw [ev_then (c := cAt Try.f6 []) (b := cAt Try.f6 [1]) rfl r0, ev_then (c := cAt Try.f6 [1]) (b := cAt Try.f6 [1, 1]) rfl r1, r3, ev_then (c := cAt Try.f6 [1, 1, 1, 1]) (b := cAt Try.f6 [1, 1, 1, 1, 1]) rfl r6]
    exact r7
  have hrange : evCode Try.prog (callH lf) lf 237 none (cAt Try.f6 [1, 1, 1, 1, 1, 1, 0, 1]) e4 [] H4 = (match rangeEnd (H4.next + 1) e4 [.mark H4.next] (callH lf (.fn 52 [.func (.yield (H4.next + 1)) #[] #[], .pointer (some ⟨bt, 0, none⟩)]) ((H4.push .defs).push (loopH e4 .ready))) with
      | some (.exit id', env', ds', H') => if id' = 0 then some (.normal, env', ds', H') else some (.exit id', env', ds', H')
      | r => r) := by
    rw [show cAt Try.f6 [1, 1, 1, 1, 1, 1, 0, 1] = .block 0 (.rangeFunc (.tmp 32) #[33, 34] (cAt Try.f6 (pF ++ [0])) (cAt Try.f6 (pF ++ [1]))) from rfl, evCode_block,
      evCode_range (g := 52) (first := #[]) (captured := #[.pointer (some ⟨bt, 0, none⟩)]) (by simp only [evA, z32]) (by kernel_rfl)]
    rfl
  rw [callH_fn (by decide) (by decide) (by decide) (by decide) (by decide) (by decide)] at hrange
  have w4 := K4.wf
  have g14 : H4.get H.next = some (.cells true 2 [.int .i64 f.params, s]) := K4.of_get w3 g13 (by simp)
  have g24 : H4.get (H.next + 1) = some (.cells true 1 [.bool false]) := K4.of_get w3 g23 (by simp)
  have hw5 : ((H4.push .defs).push (loopH e4 .ready)).Wf := (w4.push _).push _
  have up : ∀ {b ob}, H4.get b = some ob → ((H4.push .defs).push (loopH e4 .ready)).get b = some ob := fun hb => by
    have := w4.lt hb
    rw [get_push_ne (by simp; omega), get_push_ne (by omega)]; exact hb
  have gl : ((H4.push .defs).push (loopH e4 .ready)).get (H4.next + 1) = some (loopH e4 .ready) := get_push_self (H4.push .defs) _
  have gd : ((H4.push .defs).push (loopH e4 .ready)).get H4.next = some .defs := by rw [get_push_ne (by simp)]; exact get_push_self _ _
  have hI0 : ∀ R, HInv f R H H.next (H.next + 1) (H3.next + 1) H3.next (H3.next + 2) (H4.next + 1) (.int .i64 f.params) s e4 0 ((H4.push .defs).push (loopH e4 .ready)) := by
    intro R
    refine ⟨hw, hw5, (x4.to_push w4 _).to_push (w4.push _) _, by simp; omega, up g14, up g24, up q1, ⟨_, up q0, wok0 R _⟩, up q2, gl, ?_, ?_, ?_, ?_⟩ <;> omega
  rcases hcase with ⟨ps, out, br, hL, hD, hbr, gbt, gbr⟩ | ⟨i, hL, gbt⟩
  · -- it may be
    obtain ⟨_, _, hn200, _, _⟩ := ti_looked hL
    have hT := tree_of hL
    obtain ⟨hol, _⟩ := di_end hT hD
    have hnd : out.reverse.Nodup := by
      have := hD.nd
      rw [List.append_nil] at this
      exact List.pairwise_reverse.2 (this.imp Ne.symm)
    rw [← List.map_reverse] at gbr
    have gbt5 := up (K4.of_get w3 gbt (by simp))
    have gbr5 := up (K4.of_get w3 gbr (by simp))
    have hbrl := w3.lt gbr
    have hbtl := w3.lt gbt
    have hrl : (out.reverse.map (rowOf f)).length = f.nodes.length := by simp [hol]
    let I : Nat → Heap → Prop := fun j Hx => HInv f out.reverse H H.next (H.next + 1) (H3.next + 1) H3.next (H3.next + 2) (H4.next + 1) (.int .i64 f.params) s e4 j Hx ∧ Hx.get br = some (.cells true 2 (out.reverse.map (rowOf f)).flatten) ∧ Hx.get H4.next = some .defs
    have G : Going (callI lf) (out.reverse.map (rowOf f)) br (H4.next + 1) I := by
      refine ⟨fun j Hx h => h.1.wf, fun j Hx z o h => ⟨h.1.setNew z o, ?_, ?_⟩, fun j Hx h => h.2.1, fun j Hx h => ⟨_, h.1.gl, rfl⟩, ?_⟩
      · have := Nat.ne_of_lt (h.1.wf.lt h.2.1)
        rw [get_set_ne this, get_push_ne this]; exact h.2.1
      · have := Nat.ne_of_lt (h.1.wf.lt h.2.2)
        rw [get_set_ne this, get_push_ne this]; exact h.2.2
      · intro j Hx k op h hrow
        rw [List.getElem?_map] at hrow
        obtain ⟨kk, hk, he⟩ := Option.map_eq_some_iff.1 hrow
        have hkn : kk < f.nodes.length := hD.lt kk (by
          have := List.mem_of_getElem? hk
          simpa using this)
        obtain ⟨x, hxk⟩ : ∃ x, f.nodes[kk]? = some x := ⟨_, List.getElem?_eq_getElem hkn⟩
        obtain ⟨l', hxs, _, _⟩ := hx kk x hxk
        simp only [rowOf, List.cons.injEq, Value.int.injEq, true_and, and_true] at he
        obtain ⟨rfl, rfl⟩ := he
        have hop : opOf f kk = x.op := by unfold opOf; rw [hxk]
        rw [hop]
        have hjl := (List.getElem?_eq_some_iff.1 hk).1
        simp at hjl
        obtain ⟨H', hr, hI', hkeep⟩ := h_round (call := fun _ _ => none) (lf := lf) h.1 hs hlen hxs hnd hk (by omega) t1 t4 z5
        refine ⟨H', callI_round.trans hr, hI', hkeep br _ h.2.1 (by omega) (by omega) (by omega), hkeep H4.next _ h.2.2 (by omega) (by omega) (by omega)⟩
    obtain ⟨H6, r52, hI6⟩ := t_run (lf := lf) (bt := bt) G (fun x hx => by
      obtain ⟨y, _, rfl⟩ := List.mem_map.1 hx
      exact ⟨_, _, rfl⟩) (by rw [hrl]; omega) (by rw [hrl]; omega) ⟨hI0 out.reverse, gbr5, gd⟩ (by rw [hrl]; exact gbt5)
    rw [hrl] at hI6
    obtain ⟨hI6, _, gd6⟩ := hI6
    rw [r52] at hrange
    have hre : rangeEnd (H4.next + 1) e4 [.mark H4.next] (some (CRes.ret (.tuple #[]), H6)) = some (.normal, e4, [.mark H4.next], H6.set (H4.next + 1) (loopH e4 .exhausted)) := by
      simp only [rangeEnd]
      rw [show H6.get (H4.next + 1) = some (loopH e4 .ready) from hI6.gl]
      rfl
    rw [hre] at hrange
    rw [hrange] at hpre
    obtain ⟨W, gw, hW⟩ := hI6.gw
    refine ⟨e4, H4.next, H.next, H.next + 1, H3.next + 1, H3.next, H3.next + 2, out.reverse, f.nodes.length, H6.set (H4.next + 1) (loopH e4 .exhausted), s, rfl, hpre, t1, t2, t4, z5, ?_, .inl ⟨ps, hL, by simpa using hD, rfl⟩⟩
    obtain ⟨nw1, nw2, nw4, nw5, nwl⟩ := hI6.nw
    obtain ⟨nl1, nl2, nl4⟩ := hI6.nl
    obtain ⟨_, _, _, n5l⟩ := hI6.n5
    refine ⟨hI6.wf.set (hI6.wf.lt hI6.gl) _, hI6.ext.to_set (hw _ (by omega)) _, ?_, ?_, ?_, ⟨W, ?_, hW⟩, ?_, ?_, by omega⟩
    · rw [get_set_ne nl1]; exact hI6.g1
    · rw [get_set_ne nl2]; exact hI6.g2
    · rw [get_set_ne nl4]; exact hI6.g4
    · rw [get_set_ne (Ne.symm nwl)]; exact gw
    · rw [get_set_ne (Ne.symm n5l)]; exact hI6.g5
    · rw [get_set_ne (by omega)]; exact gd6
  · -- it may not
    have gbt5 := up (K4.of_get w3 gbt (by simp))
    have r52 := t_run_nil (call := callI lf) (lf := lf) (l := H4.next + 1) (by omega) gbt5
    rw [r52] at hrange
    have hre : rangeEnd (H4.next + 1) e4 [.mark H4.next] (some (CRes.ret (.tuple #[]), (H4.push .defs).push (loopH e4 .ready))) = some (.normal, e4, [.mark H4.next], ((H4.push .defs).push (loopH e4 .ready)).set (H4.next + 1) (loopH e4 .exhausted)) := by
      simp only [rangeEnd]
      rw [show ((H4.push .defs).push (loopH e4 .ready)).get (H4.next + 1) = some (loopH e4 .ready) from gl]
      rfl
    rw [hre] at hrange
    rw [hrange] at hpre
    have hI6 := hI0 []
    refine ⟨e4, H4.next, H.next, H.next + 1, H3.next + 1, H3.next, H3.next + 2, [], 0, _, s, rfl, hpre, t1, t2, t4, z5, ?_, .inr ⟨i, hL, rfl⟩⟩
    obtain ⟨W, gw, hW⟩ := hI6.gw
    obtain ⟨nw1, nw2, nw4, nw5, nwl⟩ := hI6.nw
    obtain ⟨nl1, nl2, nl4⟩ := hI6.nl
    obtain ⟨_, _, _, n5l⟩ := hI6.n5
    refine ⟨hI6.wf.set (hI6.wf.lt hI6.gl) _, hI6.ext.to_set (hw _ (by omega)) _, ?_, ?_, ?_, ⟨W, ?_, hW⟩, ?_, ?_, by omega⟩
    · rw [get_set_ne nl1]; exact hI6.g1
    · rw [get_set_ne nl2]; exact hI6.g2
    · rw [get_set_ne nl4]; exact hI6.g4
    · rw [get_set_ne (Ne.symm nwl)]; exact gw
    · rw [get_set_ne (Ne.symm n5l)]; exact hI6.g5
    · rw [get_set_ne (by omega)]; exact gd
end Go.Proofs.Ytpopkajkekceiaa

namespace Go.Proofs.Ytpopkajkekceiaa
open Go Go.Abs
set_option maxRecDepth 100000
set_option linter.unusedSimpArgs false
set_option linter.unusedVariables false

/-! ### When the nodes are done -/
theorem when_at {f : FunD} {ps : List Pl} {R : List Nat} {W : List Int} (hL : lookedL f = .ok ps) (hD : DI (kidsOf f) f.nodes.length [] R.reverse) (hW : WOk R f.nodes.length f.nodes.length W) {y : Nat} (hy : y < f.nodes.length) :
    ∃ a, R.reverse[a]? = some y ∧ a < f.nodes.length ∧ W[y]? = some ((f.nodes.length - a : Nat) : Int) := by
  obtain ⟨hol, hall⟩ := di_end (tree_of hL) hD
  obtain ⟨a, ha, he⟩ := List.mem_iff_getElem.1 (hall y hy)
  have hRl : R.length = f.nodes.length := by simpa using hol
  have hal : a < f.nodes.length := by rw [hol] at ha; exact ha
  refine ⟨a, by rw [List.getElem?_eq_getElem ha, he], hal, ?_⟩
  have hRa : R[f.nodes.length - 1 - a]? = some y := by
    have : R.reverse[a]? = some y := by rw [List.getElem?_eq_getElem ha, he]
    rw [List.getElem?_reverse (by omega), hRl] at this
    exact this
  have := hW.at' (f.nodes.length - 1 - a) y (by omega) hRa
  rw [this]
  congr 2
  omega

theorem when_kid {f : FunD} {ps : List Pl} {R : List Nat} {W : List Int} (hL : lookedL f = .ok ps) (hD : DI (kidsOf f) f.nodes.length [] R.reverse) (hW : WOk R f.nodes.length f.nodes.length W) {i c : Nat} (hc : c ∈ kidsOf f i) :
    ∃ wc wi : Int, W[c]? = some wc ∧ W[i]? = some wi ∧ wc < wi ∧ 0 < wc := by
  have hup := (tree_of hL).up i c hc
  obtain ⟨a, ha, hal, hwa⟩ := when_at hL hD hW (y := i) (by omega)
  obtain ⟨b, hb, hbl, hwb⟩ := when_at hL hD hW (y := c) hup.2
  have := hD.o1 a b i c ha hb hc
  exact ⟨_, _, hwb, hwa, by omega, by omega⟩
theorem when_sib {f : FunD} {ps : List Pl} {R : List Nat} {W : List Int} (hL : lookedL f = .ok ps) (hD : DI (kidsOf f) f.nodes.length [] R.reverse) (hW : WOk R f.nodes.length f.nodes.length W) {i k c1 c2 : Nat} (h1 : (kidsOf f i)[k]? = some c1) (h2 : (kidsOf f i)[k + 1]? = some c2) :
    ∃ w1 w2 : Int, W[c1]? = some w1 ∧ W[c2]? = some w2 ∧ w1 < w2 := by
  have hn : (R.reverse).Nodup := by simpa using hD.nd
  obtain ⟨a, ha, hal, hwa⟩ := when_at hL hD hW (y := c1) ((tree_of hL).up i c1 (List.mem_of_getElem? h1)).2
  obtain ⟨b, hb, hbl, hwb⟩ := when_at hL hD hW (y := c2) ((tree_of hL).up i c2 (List.mem_of_getElem? h2)).2
  obtain ⟨b2, g1, g2⟩ := hD.o2 i k c1 c2 h1 h2 a ha
  have := nodup_inj hn hb g2
  exact ⟨_, _, hwa, hwb, by omega⟩
theorem when_root {f : FunD} {ps : List Pl} {R : List Nat} {W : List Int} (hL : lookedL f = .ok ps) (hD : DI (kidsOf f) f.nodes.length [] R.reverse) (hW : WOk R f.nodes.length f.nodes.length W) : W[0]? = some (f.nodes.length : Int) := by
  have hpos := (tree_of hL).pos
  obtain ⟨a, ha, hal, hwa⟩ := when_at hL hD hW (y := 0) hpos
  have : a = 0 := by
    obtain ⟨hol, _⟩ := di_end (tree_of hL) hD
    obtain ⟨y, hy⟩ : ∃ y, R.reverse[0]? = some y := ⟨_, List.getElem?_eq_getElem (by omega)⟩
    rcases hD.par y (by rw [List.append_nil]; exact List.mem_of_getElem? hy) with rfl | ⟨p, hp, hc⟩
    · have hn : (R.reverse).Nodup := by simpa using hD.nd
      exact nodup_inj hn ha hy
    · obtain ⟨b, hb, he⟩ := List.mem_iff_getElem.1 hp
      have := hD.o1 b 0 p y (by rw [List.getElem?_eq_getElem hb, he]) hy hc
      omega
  rw [hwa, this]
  simp

/-! ### What Depth and Parent say of a tree -/
theorem placed_node {f : FunD} {ps : List Pl} (hL : lookedL f = .ok ps) {i : Nat} {p : Pl} (hp : ps[i]? = some p) : placedL f (i : Int) = (p, 0) := by
  have hlen := (ti_looked hL).1.len
  have hi := (List.getElem?_eq_some_iff.1 hp).1
  unfold placedL
  rw [hL]
  simp only
  rw [if_pos (by omega)]
  simp [List.getD_eq_getElem?_getD, hp]
theorem placed_kid {f : FunD} {ps : List Pl} (hL : lookedL f = .ok ps) {i k : Nat} {x : NodeD} {c : Int} (hx : f.nodes[i]? = some x) (hk : x.l[k]? = some c) :
    ∃ (j : Nat) (p : Pl), c = j ∧ i < j ∧ j < f.nodes.length ∧ ps[i]? = some p ∧ (kidsOf f i)[k]? = some j ∧ placedL f c = (⟨i, p.vars + delta x.op k, true⟩, 0) ∧ parentL f c = ((i : Int), 0) := by
  obtain ⟨hI, _, _, _, _⟩ := ti_looked hL
  obtain ⟨j, p, e1, e2, e3, e4, e5⟩ := hI.kid i x hx k c hk (.inl (List.getElem?_eq_some_iff.1 hx).1)
  subst e1
  have hp := placed_node hL e5
  refine ⟨j, p, rfl, e2, e3, e4, ?_, hp, ?_⟩
  · unfold kidsOf
    rw [hx]
    simp [hk]
  · unfold parentL
    rw [hp]
    simp only
    rw [if_neg (by omega)]
end Go.Proofs.Ytpopkajkekceiaa

namespace Go.Proofs.Ytpopkajkekceiaa
open Go Go.Abs
set_option maxRecDepth 100000
set_option linter.unusedSimpArgs false
set_option linter.unusedVariables false

theorem kids_low {n i : Nat} {op vars : Int} : ∀ (l : List Int) (k : Nat) (ps ps' : List Pl), lookKids n i op vars k l ps = some ps' → ∀ j, j ≤ i → ps'[j]? = ps[j]?
  | [], k, ps, ps', h, j, hj => by simp only [lookKids, Option.some.injEq] at h; subst h; rfl
  | c :: cs, k, ps, ps', h, j, hj => by
    simp only [lookKids] at h
    split at h
    · rename_i hc
      split at h
      · split at h
        · cases h
        · rw [kids_low cs _ _ _ h j hj, List.getElem?_set_ne (by omega)]
      · cases h
    · cases h
theorem step_low {n i : Nat} {x : NodeD} {ps ps' : List Pl} (h : nodeStep n i x ps = some ps') : (∀ j, j ≤ i → ps'[j]? = ps[j]?) ∧ ∃ p, ps[i]? = some p ∧ 0 ≤ p.vars ∧ p.vars ≤ 64 := by
  unfold nodeStep at h
  split at h
  · rename_i p hp
    split at h
    · split at h
      · rename_i hc
        refine ⟨kids_low _ _ _ _ h, p, hp, ?_⟩
        have := hc.2
        simp only [withinL] at this
        split at this
        · cases this
        · split at this
          · cases this
          · omega
      · cases h
    · cases h
  · cases h
theorem from_low {n : Nat} : ∀ (xs : List NodeD) (i : Nat) (ps ps' : List Pl), lookFrom n i xs ps = .ok ps' → (∀ j, j < i → ps'[j]? = ps[j]?) ∧ ∀ j p, i ≤ j → j < i + xs.length → ps'[j]? = some p → 0 ≤ p.vars ∧ p.vars ≤ 64
  | [], i, ps, ps', h => by simp only [lookFrom, Except.ok.injEq] at h; subst h; exact ⟨fun _ _ => rfl, fun j p h1 h2 => by simp at h2; omega⟩
  | x :: xs, i, ps, ps', h => by
    rw [lookFrom_cons] at h
    split at h
    · rename_i ps2 hs
      obtain ⟨a1, p, a2, a3⟩ := step_low hs
      obtain ⟨b1, b2⟩ := from_low xs (i + 1) ps2 ps' h
      refine ⟨fun j hj => (b1 j (by omega)).trans (a1 j (by omega)), fun j q h1 h2 hq => ?_⟩
      by_cases hj : j = i
      · subst hj
        rw [b1 j (by omega), a1 j (Nat.le_refl _), a2] at hq
        cases hq
        exact a3
      · exact b2 j q (by omega) (by simp at h2; omega) hq
    · cases h
theorem vars_ok {f : FunD} {ps : List Pl} (h : lookedL f = .ok ps) {i : Nat} {p : Pl} (hp : ps[i]? = some p) : 0 ≤ p.vars ∧ p.vars ≤ 64 := by
  have hlen := (ti_looked h).1.len
  have hi := (List.getElem?_eq_some_iff.1 hp).1
  unfold lookedL at h
  split at h
  · exact (from_low _ _ _ _ h).2 i p (by omega) (by omega) hp
  · cases h

def pG : List Nat := [1, 1, 1, 1, 1, 1, 1, 1, 0, 1, 0, 0]
def pH : List Nat := [1, 1, 1, 1, 1, 1, 1, 1, 0, 1, 0, 0, 1, 0, 0]
def pL2 : List Nat := [1, 1, 1, 1, 1, 1, 1, 1, 0, 1, 0, 0, 1, 0, 0, 1, 0, 1, 0, 0]
def pM2 : List Nat := [1, 1, 1, 1, 1, 1, 1, 1, 0, 1, 0, 0, 1, 0, 0, 1, 0, 1, 0, 0, 1, 0, 0]

def keepH (e e' : Env) : Prop := e'.val 1 = e.val 1 ∧ e'.val 2 = e.val 2 ∧ e'.val 4 = e.val 4 ∧ e'.val 5 = e.val 5 ∧ e'.val 8 = e.val 8 ∧ e'.val 9 = e.val 9 ∧ e'.val 10 = e.val 10
theorem keepH.trans {a b c : Env} (h : keepH a b) (k : keepH b c) : keepH a c := ⟨k.1.trans h.1, k.2.1.trans h.2.1, k.2.2.1.trans h.2.2.1, k.2.2.2.1.trans h.2.2.2.1, k.2.2.2.2.1.trans h.2.2.2.2.1, k.2.2.2.2.2.1.trans h.2.2.2.2.2.1, k.2.2.2.2.2.2.trans h.2.2.2.2.2.2⟩

theorem i_R22 {call : CallF} {lf : Nat} {env : Env} {ds : List ADef} {H : Heap} {b1 i k : Nat} {p s l : Value} {xs : List (List Value)} {op nn : Int} {ll : List Int} (g1 : H.get b1 = some (.cells true 2 [p, s])) (hs : rdS H 3 s = some xs) (hx : xs[i]? = some [.int .i64 op, .int .i64 nn, l]) (hl : rdInts H .i64 l = some ll)
    (e1 : env.val 1 = .pointer (some ⟨b1, 0, none⟩)) (e8 : env.val 8 = .int .i64 i) (e11 : env.val 11 = .int .i64 k) :
    (k < ll.length → ∃ e, evCode Try.prog call lf 237 none (cAt Try.f6 (pL2 ++ [0])) env ds H = some (.normal, e, ds, H) ∧ keepH env e ∧ e.val 11 = env.val 11) ∧
    (¬ k < ll.length → ∃ e, evCode Try.prog call lf 237 none (cAt Try.f6 (pL2 ++ [0])) env ds H = some (.exit 4, e, ds, H) ∧ keepH env e) := by
  have hlt := (List.getElem?_eq_some_iff.1 hx).1
  have ld1 : loadA Try.prog 22 H b1 1 = some s := by simp [loadA, g1]
  have ix := rdS_index hs Try.underlying22 info40 (by simp) (n := (i : Int)) (by omega) (by omega)
  simp only [Int.toNat_natCast] at ix
  have lo := rdS_load hs hx (k := 2) (u := l) rfl info38 Try.underlying38 (t := 38) rfl
  have hb := len_of (H' := H) (P := Try.prog) (t := 38) (rdInts_rd hl) Try.underlying38
  simp only [List.length_map] at hb
  generalize hr : evCode Try.prog call lf 237 none (cAt Try.f6 (pL2 ++ [0])) env ds H = out
  by_cases hk : k < ll.length
  · have c1 : (k : Int) < (ll.length : Int) := by omega
    simp [pL2, Try.f6, e1, e8, e11, ld1, ix, lo, hb, c1, hk] at hr
    subst hr
    exact ⟨fun _ => ⟨_, rfl, by simp [keepH, e1, e8], by simp [e11]⟩, fun h => absurd hk h⟩
  · have c1 : ¬ (k : Int) < (ll.length : Int) := by omega
    simp [pL2, Try.f6, e1, e8, e11, ld1, ix, lo, hb, c1, hk] at hr
    subst hr
    exact ⟨fun h => absurd h hk, fun _ => ⟨_, rfl, by simp [keepH, e1, e8]⟩⟩

theorem i_R24 {lf : Nat} {env : Env} {ds : List ADef} {H : Heap} {b1 i k : Nat} {p s l : Value} {xs : List (List Value)} {op nn c dv pv : Int} {ll : List Int} (g1 : H.get b1 = some (.cells true 2 [p, s])) (hs : rdS H 3 s = some xs) (hx : xs[i]? = some [.int .i64 op, .int .i64 nn, l]) (hl : rdInts H .i64 l = some ll) (hk : ll[k]? = some c)
    (hd : callH lf (.fn 15 [.agg #[p, s], .int .i64 c]) H = some (.ret (.tuple #[.int .i64 dv, .int .i64 0]), H)) (hp : callH lf (.fn 17 [.agg #[p, s], .int .i64 c]) H = some (.ret (.tuple #[.int .i64 pv, .int .i64 0]), H))
    (e1 : env.val 1 = .pointer (some ⟨b1, 0, none⟩)) (e8 : env.val 8 = .int .i64 i) (e11 : env.val 11 = .int .i64 k) :
    ∃ e, evCode Try.prog (callH lf) lf 237 none (cAt Try.f6 pM2) env ds H = evCode Try.prog (callH lf) lf 237 none (cAt Try.f6 (pM2 ++ [1, 1, 1])) e ds H ∧ keepH env e ∧ e.val 11 = env.val 11 ∧ e.val 12 = .int .i64 c ∧ e.val 13 = .int .i64 dv ∧ e.val 14 = .int .i64 0 ∧ e.val 15 = .int .i64 pv ∧ e.val 16 = .int .i64 0 := by
  have hlt := (List.getElem?_eq_some_iff.1 hx).1
  have ld1 : loadA Try.prog 22 H b1 1 = some s := by simp [loadA, g1]
  have ld0 : loadA Try.prog 24 H b1 0 = some (.agg #[p, s]) := by simp [loadA, g1]
  have ix := rdS_index hs Try.underlying22 info40 (by simp) (n := (i : Int)) (by omega) (by omega)
  simp only [Int.toNat_natCast] at ix
  have lo := rdS_load hs hx (k := 2) (u := l) rfl info38 Try.underlying38 (t := 38) rfl
  obtain ⟨ik, lk⟩ := rdInts_at (n := k) (x := c) (P := Try.prog) (t := 38) (e := 3) hl hk Try.underlying38 info3 rfl Try.underlying3 rfl
  generalize callH lf = call at hd hp
  have r1 : ∃ e, evCode Try.prog call lf 237 none (cAt Try.f6 (pM2 ++ [0])) env ds H = some (.normal, e, ds, H) ∧ keepH env e ∧ e.val 11 = env.val 11 ∧ e.val 12 = .int .i64 c := by
    generalize hr : evCode Try.prog call lf 237 none (cAt Try.f6 (pM2 ++ [0])) env ds H = out
    simp [pM2, Try.f6, e1, e8, e11, ld1, ix, lo, ik, lk] at hr
    subst hr
    exact ⟨_, rfl, by simp [keepH, e1, e8], by simp [e11], by simp⟩
  obtain ⟨a, r1, ka, a11, a12⟩ := r1
  have r2 : ∃ e, evCode Try.prog call lf 237 none (cAt Try.f6 (pM2 ++ [1, 0])) a ds H = some (.normal, e, ds, H) ∧ keepH a e ∧ e.val 11 = a.val 11 ∧ e.val 12 = a.val 12 ∧ e.val 13 = .int .i64 dv ∧ e.val 14 = .int .i64 0 := by
    have a1 := ka.1.trans e1
    generalize hr : evCode Try.prog call lf 237 none (cAt Try.f6 (pM2 ++ [1, 0])) a ds H = out
    simp [pM2, Try.f6, a1, a12, ld0, callA, hd] at hr
    subst hr
    exact ⟨_, rfl, by simp [keepH, a1], by simp, by simp [a12], by simp, by simp⟩
  obtain ⟨b, r2, kb, b11, b12, b13, b14⟩ := r2
  have r3 : ∃ e, evCode Try.prog call lf 237 none (cAt Try.f6 (pM2 ++ [1, 1, 0])) b ds H = some (.normal, e, ds, H) ∧ keepH b e ∧ e.val 11 = b.val 11 ∧ e.val 12 = b.val 12 ∧ e.val 13 = b.val 13 ∧ e.val 14 = b.val 14 ∧ e.val 15 = .int .i64 pv ∧ e.val 16 = .int .i64 0 := by
    have b1' := kb.1.trans (ka.1.trans e1)
    have b12' := b12.trans a12
    generalize hr : evCode Try.prog call lf 237 none (cAt Try.f6 (pM2 ++ [1, 1, 0])) b ds H = out
    simp [pM2, Try.f6, b1', b12', ld0, callA, hp] at hr
    subst hr
    exact ⟨_, rfl, by simp [keepH, b1'], by simp, by simp [b12'], by simp, by simp, by simp, by simp⟩
  obtain ⟨c', r3, kc, c11, c12, c13, c14, c15, c16⟩ := r3
  refine ⟨c', ?_, (ka.trans kb).trans kc, c11.trans (b11.trans a11), c12.trans (b12.trans a12), c13.trans b13, c14.trans b14, c15, c16⟩
  rw [ev_then (c := cAt Try.f6 pM2) (b := cAt Try.f6 (pM2 ++ [1])) rfl r1, ev_then (c := cAt Try.f6 (pM2 ++ [1])) (b := cAt Try.f6 (pM2 ++ [1, 1])) rfl r2, ev_then (c := cAt Try.f6 (pM2 ++ [1, 1])) (b := cAt Try.f6 (pM2 ++ [1, 1, 1])) rfl r3]

theorem i_R27 {call : CallF} {lf : Nat} {env : Env} {ds : List ADef} {H : Heap} {b1 i k : Nat} {p s l : Value} {xs : List (List Value)} {op nn : Int} (g1 : H.get b1 = some (.cells true 2 [p, s])) (hs : rdS H 3 s = some xs) (hx : xs[i]? = some [.int .i64 op, .int .i64 nn, l])
    (e1 : env.val 1 = .pointer (some ⟨b1, 0, none⟩)) (e8 : env.val 8 = .int .i64 i) (e11 : env.val 11 = .int .i64 k) :
    ∃ e, evCode Try.prog call lf 237 none (cAt Try.f6 (pM2 ++ [1, 1, 1])) env ds H = evCode Try.prog call lf 237 none (cAt Try.f6 (pM2 ++ [1, 1, 1, 1, 1])) e ds H ∧ keepH env e ∧ e.val 11 = env.val 11 ∧ e.val 12 = env.val 12 ∧ e.val 13 = env.val 13 ∧ e.val 14 = env.val 14 ∧ e.val 15 = env.val 15 ∧ e.val 16 = env.val 16 ∧ e.val 17 = .int .i64 (delta op k) := by
  have hlt := (List.getElem?_eq_some_iff.1 hx).1
  have ld1 : loadA Try.prog 22 H b1 1 = some s := by simp [loadA, g1]
  have ix := rdS_index hs Try.underlying22 info40 (by simp) (n := (i : Int)) (by omega) (by omega)
  simp only [Int.toNat_natCast] at ix
  have lo := rdS_load0 hs hx (u := .int .i64 op) rfl (t := 37) info37 Try.underlying37 rfl
  have r1 : ∃ e, evCode Try.prog call lf 237 none (cAt Try.f6 (pM2 ++ [1, 1, 1, 0])) env ds H = some (.normal, e, ds, H) ∧ keepH env e ∧ e.val 11 = env.val 11 ∧ e.val 12 = env.val 12 ∧ e.val 13 = env.val 13 ∧ e.val 14 = env.val 14 ∧ e.val 15 = env.val 15 ∧ e.val 16 = env.val 16 ∧ e.val 17 = .int .i64 0 := by
    generalize hr : evCode Try.prog call lf 237 none (cAt Try.f6 (pM2 ++ [1, 1, 1, 0])) env ds H = out
    simp [pM2, Try.f6] at hr
    subst hr
    exact ⟨_, rfl, by simp [keepH], by simp⟩
  obtain ⟨a, r1, ka, a11, a12, a13, a14, a15, a16, a17⟩ := r1
  have a1 := ka.1.trans e1
  have a8 := ka.2.2.2.2.1.trans e8
  have a11' := a11.trans e11
  have r2 : ∃ e, evCode Try.prog call lf 237 none (cAt Try.f6 (pM2 ++ [1, 1, 1, 1, 0])) a ds H = some (.normal, e, ds, H) ∧ keepH a e ∧ e.val 11 = a.val 11 ∧ e.val 12 = a.val 12 ∧ e.val 13 = a.val 13 ∧ e.val 14 = a.val 14 ∧ e.val 15 = a.val 15 ∧ e.val 16 = a.val 16 ∧ e.val 17 = .int .i64 (delta op k) := by
    generalize hr : evCode Try.prog call lf 237 none (cAt Try.f6 (pM2 ++ [1, 1, 1, 1, 0])) a ds H = out
    by_cases h4 : op = 4
    · by_cases hk : k = 1
      · have hk' : ((k : Int) == 1) = true := by simp; omega
        have hd : delta op k = 1 := by unfold delta; rw [if_pos ⟨h4, hk⟩]
        rw [hd]
        subst h4
        simp [pM2, Try.f6, a1, a8, a11', ld1, ix, lo, -beq_iff_eq, hk'] at hr
        subst hr
        exact ⟨_, rfl, by simp [keepH, a1, a8], by simp [a11'], by simp⟩
      · have hk' : ¬ ((k : Int) = 1) := by omega
        have hd : delta op k = 0 := by unfold delta; rw [if_neg (fun h => hk h.2)]
        rw [hd]
        subst h4
        simp [pM2, Try.f6, a1, a8, a11', ld1, ix, lo, hk, hk', beqF hk'] at hr
        subst hr
        exact ⟨_, rfl, by simp [keepH, a1, a8], by simp [a11'], by simp [a17]⟩
    · have hd : delta op k = 0 := by unfold delta; rw [if_neg (fun h => h4 h.1)]
      rw [hd]
      simp [pM2, Try.f6, a1, a8, a11', ld1, ix, lo, h4, beqF h4] at hr
      subst hr
      exact ⟨_, rfl, by simp [keepH, a1, a8], by simp [a11'], by simp [a17]⟩
  obtain ⟨b, r2, kb, b11, b12, b13, b14, b15, b16, b17⟩ := r2
  exact ⟨b, by rw [ev_then (c := cAt Try.f6 (pM2 ++ [1, 1, 1])) (b := cAt Try.f6 (pM2 ++ [1, 1, 1, 1])) rfl r1, ev_then (c := cAt Try.f6 (pM2 ++ [1, 1, 1, 1])) (b := cAt Try.f6 (pM2 ++ [1, 1, 1, 1, 1])) rfl r2], ka.trans kb, b11.trans a11, b12.trans a12, b13.trans a13, b14.trans a14, b15.trans a15, b16.trans a16, b17⟩
end Go.Proofs.Ytpopkajkekceiaa

namespace Go.Proofs.Ytpopkajkekceiaa
open Go Go.Abs
set_option maxRecDepth 100000
set_option linter.unusedSimpArgs false
set_option linter.unusedVariables false

theorem i_R30 {lf : Nat} {env : Env} {ds : List ADef} {H : Heap} {b1 b4 wb n i k j : Nat} {p s l : Value} {xs : List (List Value)} {op nn dv : Int} {ll W : List Int} {wc wi : Int} (g1 : H.get b1 = some (.cells true 2 [p, s])) (g4 : H.get b4 = some (.cells true 1 [.slice (some ⟨wb, 0, none⟩) n n])) (gw : H.get wb = some (.cells true 1 (intsV W)))
    (hs : rdS H 3 s = some xs) (hx : xs[i]? = some [.int .i64 op, .int .i64 nn, l]) (hl : rdInts H .i64 l = some ll) (hjn : j < n) (hij : i < j) (hdv : 0 ≤ dv ∧ dv ≤ 64) (hkb : k < 1099511627776)
    (hwc : W[j]? = some wc) (hwi : W[i]? = some wi) (hlt : wc < wi) (hsib : 0 < k → ∃ (j0 : Nat) (w0 : Int), ll[k - 1]? = some (j0 : Int) ∧ j0 < n ∧ W[j0]? = some w0 ∧ w0 < wc)
    (e1 : env.val 1 = .pointer (some ⟨b1, 0, none⟩)) (e4 : env.val 4 = .pointer (some ⟨b4, 0, none⟩)) (e8 : env.val 8 = .int .i64 i) (e9 : env.val 9 = .int .i64 dv) (e11 : env.val 11 = .int .i64 k) (e12 : env.val 12 = .int .i64 (j : Int)) (e13 : env.val 13 = .int .i64 (dv + delta op k)) (e14 : env.val 14 = .int .i64 0) (e15 : env.val 15 = .int .i64 (i : Int)) (e16 : env.val 16 = .int .i64 0) (e17 : env.val 17 = .int .i64 (delta op k)) :
    ∃ e, evCode Try.prog (callH lf) lf 237 none (cAt Try.f6 (pM2 ++ [1, 1, 1, 1, 1])) env ds H = some (.normal, e, ds, H) ∧ keepH env e ∧ e.val 11 = env.val 11 := by
  have hil := (List.getElem?_eq_some_iff.1 hx).1
  have ld1 : loadA Try.prog 22 H b1 1 = some s := by simp [loadA, g1]
  have ld4 : loadA Try.prog 38 H b4 0 = some (.slice (some ⟨wb, 0, none⟩) n n) := by simp [loadA, g4]
  have ix := rdS_index hs Try.underlying22 info40 (by simp) (n := (i : Int)) (by omega) (by omega)
  simp only [Int.toNat_natCast] at ix
  have lo := rdS_load hs hx (k := 2) (u := l) rfl info38 Try.underlying38 (t := 38) rfl
  have iwj := index38 (b := wb) (n := n) (c := n) (i := (j : Int)) (by omega) (by omega)
  have iwi := index38 (b := wb) (n := n) (c := n) (i := (i : Int)) (by omega) (by omega)
  simp only [Int.toNat_natCast] at iwj iwi
  have lwj := load_ints gw hwc
  have lwi := load_ints gw hwi
  have hdl : 0 ≤ delta op k ∧ delta op k ≤ 1 := by unfold delta; split <;> omega
  have wr1 : IntKind.i64.wrap (dv + delta op k) = dv + delta op k := wrapI (by omega) (by omega)
  have hn0 := callH_num (lf := lf) (H := H) (n := 0)
  have wz : IntKind.i64.wrap 0 = 0 := by decide
  have c1 : ¬ (j : Int) ≤ (i : Int) := by omega
  have c1' : ¬ j ≤ i := by omega
  have c2 : ¬ (n : Int) ≤ (j : Int) := by omega
  have c2' : ¬ n ≤ j := by omega
  have c3 : ¬ wi ≤ wc := by omega
  generalize callH lf = call at hn0
  generalize hr : evCode Try.prog call lf 237 none (cAt Try.f6 (pM2 ++ [1, 1, 1, 1, 1])) env ds H = out
  simp [pM2, Try.f6] at hr
  rw [evDraw_tab (tab := [])] at hr
  · by_cases hk : 0 < k
    · obtain ⟨j0, w0, h1, h2, h3, h4⟩ := hsib hk
      have ck : (0 : Int) < (k : Int) := by omega
      have wk : IntKind.i64.wrap ((k : Int) - 1) = ((k - 1 : Nat) : Int) := by rw [wrapI (by omega) (by omega)]; omega
      obtain ⟨ik, lk⟩ := rdInts_at (n := k - 1) (x := (j0 : Int)) (P := Try.prog) (t := 38) (e := 3) hl h1 Try.underlying38 info3 rfl Try.underlying3 rfl
      have iw0 := index38 (b := wb) (n := n) (c := n) (i := (j0 : Int)) (by omega) (by omega)
      simp only [Int.toNat_natCast] at iw0
      have lw0 := load_ints gw h3
      have c4 : ¬ wc < w0 := by omega
      generalize hkk : ((k - 1 : Nat) : Int) = kk at *
      generalize hoff : offs l + (k - 1) = offk at *
      simp [e1, e4, e8, e9, e11, e12, e13, e14, e15, e16, e17, ld1, ld4, ix, lo, iwj, iwi, lwj, lwi, wr1, callA, hn0, wz, c1, c1', c2, c2', c3, ck, hk, wk, ik, lk, iw0, lw0, c4, undef] at hr
      subst hr
      exact ⟨_, rfl, by simp [keepH, e1, e4, e8, e9], by simp [e11]⟩
    · have ck : ¬ (0 : Int) < (k : Int) := by omega
      simp [e1, e4, e8, e9, e11, e12, e13, e14, e15, e16, e17, ld1, ld4, ix, lo, iwj, iwi, lwj, lwi, wr1, callA, hn0, wz, c1, c1', c2, c2', c3, ck, hk, undef] at hr
      subst hr
      exact ⟨_, rfl, by simp [keepH, e1, e4, e8, e9], by simp [e11]⟩
  · kernel_rfl
  · kernel_rfl
end Go.Proofs.Ytpopkajkekceiaa

namespace Go.Proofs.Ytpopkajkekceiaa
open Go Go.Abs
set_option maxRecDepth 100000
set_option linter.unusedSimpArgs false
set_option linter.unusedVariables false

theorem i_R23 {call : CallF} {lf : Nat} {env : Env} {ds : List ADef} {H : Heap} {k : Nat} (hk : k < 1099511627776) (e11 : env.val 11 = .int .i64 k) :
    ∃ e, evCode Try.prog call lf 237 none (cAt Try.f6 (pL2 ++ [1, 1])) env ds H = some (.normal, e, ds, H) ∧ keepH env e ∧ e.val 11 = .int .i64 ((k + 1 : Nat) : Int) := by
  have w1 : IntKind.i64.wrap ((k : Int) + 1) = (k : Int) + 1 := wrapI (by omega) (by omega)
  generalize hr : evCode Try.prog call lf 237 none (cAt Try.f6 (pL2 ++ [1, 1])) env ds H = out
  simp [pL2, Try.f6, e11, w1] at hr
  subst hr
  exact ⟨_, rfl, by simp [keepH], by simp⟩

/-- The heap behind the range, which does not turn any more. -/
structure HFix (f : FunD) (ps : List Pl) (W : List Int) (xs : List (List Value)) (b1 b4 wb : Nat) (s : Value) (H : Heap) : Prop where
  g1 : H.get b1 = some (.cells true 2 [.int .i64 f.params, s])
  g4 : H.get b4 = some (.cells true 1 [.slice (some ⟨wb, 0, none⟩) f.nodes.length f.nodes.length])
  gw : H.get wb = some (.cells true 1 (intsV W))
  hs : rdS H 3 s = some xs
  hx : ∀ (i : Nat) x, f.nodes[i]? = some x → ∃ s', xs[i]? = some [.int .i64 x.op, .int .i64 x.n, s'] ∧ rdInts H .i64 s' = some x.l
  fit : rdFit H (.agg #[.int .i64 f.params, s]) = some f
  ok : lookedL f = .ok ps
  xl : xs.length = f.nodes.length
  kid : ∀ i c, c ∈ kidsOf f i → ∃ wc wi : Int, W[c]? = some wc ∧ W[i]? = some wi ∧ wc < wi ∧ 0 < wc
  sib : ∀ (i k c1 c2 : Nat), (kidsOf f i)[k]? = some c1 → (kidsOf f i)[k + 1]? = some c2 → ∃ w1 w2 : Int, W[c1]? = some w1 ∧ W[c2]? = some w2 ∧ w1 < w2
  pos : ∀ i, i < f.nodes.length → ∃ w : Int, W[i]? = some w ∧ 0 < w
  root : W[0]? = some (f.nodes.length : Int)

theorem k_round {lf : Nat} {env : Env} {ds : List ADef} {f : FunD} {ps : List Pl} {W : List Int} {xs : List (List Value)} {b1 b4 wb i k : Nat} {s : Value} {H : Heap} {x : NodeD} {p : Pl} (F : HFix f ps W xs b1 b4 wb s H) (hx : f.nodes[i]? = some x) (hp : ps[i]? = some p) (hk : k < x.l.length) (hkb : x.l.length < 1099511627776)
    (e1 : env.val 1 = .pointer (some ⟨b1, 0, none⟩)) (e4 : env.val 4 = .pointer (some ⟨b4, 0, none⟩)) (e8 : env.val 8 = .int .i64 i) (e9 : env.val 9 = .int .i64 p.vars) (e11 : env.val 11 = .int .i64 k) :
    ∃ e, evCode Try.prog (callH lf) lf 237 none (cAt Try.f6 pL2) env ds H = some (.normal, e, ds, H) ∧ keepH env e ∧ e.val 11 = .int .i64 ((k + 1 : Nat) : Int) := by
  obtain ⟨l', hxs, hl⟩ := F.hx i x hx
  have hkc : x.l[k]? = some x.l[k] := List.getElem?_eq_getElem hk
  obtain ⟨j, p', ec, hij, hjn, hp', hkid, hpl, hpar⟩ := placed_kid F.ok hx hkc
  rw [hp] at hp'; cases hp'
  rw [ec] at hkc hpl hpar
  obtain ⟨a, r1, ka, a11⟩ := (i_R22 (call := callH lf) (lf := lf) (ds := ds) F.g1 F.hs hxs hl e1 e8 e11).1 hk
  have hd := callH_depth (lf := lf) (n := (j : Int)) F.fit
  rw [hpl] at hd
  have hpp := callH_parent (lf := lf) (n := (j : Int)) F.fit
  rw [hpar] at hpp
  have a1 := ka.1.trans e1
  have a4 := ka.2.2.1.trans e4
  have a8 := ka.2.2.2.2.1.trans e8
  have a9 := ka.2.2.2.2.2.1.trans e9
  obtain ⟨b, r2, kb, b11, b12, b13, b14, b15, b16⟩ := i_R24 (lf := lf) (env := a) (ds := ds) F.g1 F.hs hxs hl hkc hd hpp a1 a8 (a11.trans e11)
  obtain ⟨c, r3, kc, c11, c12, c13, c14, c15, c16, c17⟩ := i_R27 (call := callH lf) (lf := lf) (env := b) (ds := ds) F.g1 F.hs hxs (kb.1.trans a1) (kb.2.2.2.2.1.trans a8) (b11.trans (a11.trans e11))
  obtain ⟨wc, wi, hwc, hwi, hlt, _⟩ := F.kid i j (List.mem_of_getElem? hkid)
  have kbc := kb.trans kc
  obtain ⟨d, r4, kd, d11⟩ := i_R30 (lf := lf) (env := c) (ds := ds) (dv := p.vars) F.g1 F.g4 F.gw F.hs hxs hl hjn hij (vars_ok F.ok hp) (by omega) hwc hwi hlt (fun hk0 => by
      have hk1 : x.l[k - 1]? = some x.l[k - 1] := List.getElem?_eq_getElem (by omega)
      obtain ⟨j0, _, ec0, _, hj0n, _, hkid0, _, _⟩ := placed_kid F.ok hx hk1
      obtain ⟨w1, w2, g1, g2, g3⟩ := F.sib i (k - 1) j0 j hkid0 (by rw [show k - 1 + 1 = k by omega]; exact hkid)
      rw [hwc] at g2; cases g2
      exact ⟨j0, w1, by rw [hk1, ec0], hj0n, g1, g3⟩)
    (kbc.1.trans a1) (kbc.2.2.1.trans a4) (kbc.2.2.2.2.1.trans a8) (kbc.2.2.2.2.2.1.trans a9) (c11.trans (b11.trans (a11.trans e11))) (c12.trans b12) (c13.trans b13) (c14.trans b14) (c15.trans b15) (c16.trans b16) c17
  obtain ⟨g, r5, kg, g11⟩ := i_R23 (call := callH lf) (lf := lf) (env := d) (ds := ds) (H := H) (k := k) (by omega) (d11.trans (c11.trans (b11.trans (a11.trans e11))))
  refine ⟨g, ?_, (ka.trans kbc).trans (kd.trans kg), g11⟩
  have hblk : evCode Try.prog (callH lf) lf 237 none (cAt Try.f6 (pL2 ++ [1, 0])) a ds H = some (.normal, d, ds, H) := by
    rw [show cAt Try.f6 (pL2 ++ [1, 0]) = .block 5 (cAt Try.f6 pM2) from rfl, evCode_block, r2, r3, r4]
  rw [ev_then (c := cAt Try.f6 pL2) (b := cAt Try.f6 (pL2 ++ [1])) rfl r1, ev_then (c := cAt Try.f6 (pL2 ++ [1])) (b := cAt Try.f6 (pL2 ++ [1, 1])) rfl hblk, r5]

theorem k_loop {lf : Nat} {ds : List ADef} {f : FunD} {ps : List Pl} {W : List Int} {xs : List (List Value)} {b1 b4 wb i : Nat} {s : Value} {H : Heap} {x : NodeD} {p : Pl} (F : HFix f ps W xs b1 b4 wb s H) (hx : f.nodes[i]? = some x) (hp : ps[i]? = some p) (hkb : x.l.length < 1099511627776) : ∀ (m k : Nat) (env : Env), x.l.length < m + k → k ≤ x.l.length →
    env.val 1 = .pointer (some ⟨b1, 0, none⟩) → env.val 4 = .pointer (some ⟨b4, 0, none⟩) → env.val 8 = .int .i64 i → env.val 9 = .int .i64 p.vars → env.val 11 = .int .i64 k →
    ∃ e, evLoop Try.prog (callH lf) lf 237 none (cAt Try.f6 pL2) m env ds H = some (.exit 4, e, ds, H) ∧ keepH env e
  | 0, k, env, hm, hk, _, _, _, _, _ => by omega
  | m + 1, k, env, hm, hk, e1, e4, e8, e9, e11 => by
    by_cases hlt : k < x.l.length
    · obtain ⟨e, he, ke, e11'⟩ := k_round (lf := lf) (ds := ds) F hx hp hlt hkb e1 e4 e8 e9 e11
      simp only [evLoop_succ, he]
      obtain ⟨e2, h2, k2⟩ := k_loop F hx hp hkb m (k + 1) e (by omega) (by omega) (ke.1.trans e1) (ke.2.2.1.trans e4) (ke.2.2.2.2.1.trans e8) (ke.2.2.2.2.2.1.trans e9) e11'
      exact ⟨e2, h2, ke.trans k2⟩
    · obtain ⟨l', hxs, hl⟩ := F.hx i x hx
      obtain ⟨e, he, ke⟩ := (i_R22 (call := callH lf) (lf := lf) (ds := ds) F.g1 F.hs hxs hl e1 e8 e11).2 hlt
      have he2 := ev_stop (c := cAt Try.f6 pL2) (a := cAt Try.f6 (pL2 ++ [0])) (b := cAt Try.f6 (pL2 ++ [1])) rfl he (by simp)
      simp only [evLoop_succ, he2]
      exact ⟨e, rfl, ke⟩

theorem n_round {lf : Nat} {env : Env} {ds : List ADef} {f : FunD} {ps : List Pl} {W : List Int} {xs : List (List Value)} {b1 b4 wb i : Nat} {s : Value} {H : Heap} (F : HFix f ps W xs b1 b4 wb s H) (hi : i < f.nodes.length) (hlf : ∀ x ∈ f.nodes, x.l.length < lf ∧ x.l.length < 1099511627776)
    (e1 : env.val 1 = .pointer (some ⟨b1, 0, none⟩)) (e4 : env.val 4 = .pointer (some ⟨b4, 0, none⟩)) (e8 : env.val 8 = .int .i64 i) :
    ∃ e, evCode Try.prog (callH lf) lf 237 none (cAt Try.f6 pG) env ds H = some (.normal, e, ds, H) ∧ e.val 1 = env.val 1 ∧ e.val 2 = env.val 2 ∧ e.val 4 = env.val 4 ∧ e.val 5 = env.val 5 ∧ e.val 8 = .int .i64 ((i + 1 : Nat) : Int) := by
  obtain ⟨x, hx⟩ : ∃ x, f.nodes[i]? = some x := ⟨_, List.getElem?_eq_getElem hi⟩
  have hlen := (ti_looked F.ok).1.len
  have hn200 := (ti_looked F.ok).2.2.1
  obtain ⟨p, hp⟩ : ∃ p, ps[i]? = some p := ⟨_, List.getElem?_eq_getElem (by omega)⟩
  obtain ⟨w, hw, hw0⟩ := F.pos i hi
  have hb := len_of (H' := H) (P := Try.prog) (t := 22) F.hs Try.underlying22
  have ld1 : loadA Try.prog 22 H b1 1 = some s := by simp [loadA, F.g1]
  have ld0 : loadA Try.prog 24 H b1 0 = some (.agg #[.int .i64 f.params, s]) := by simp [loadA, F.g1]
  have hxl := F.xl
  have c1 : (i : Int) < (xs.length : Int) := by omega
  have c1' : i < xs.length := by omega
  have hd := callH_depth (lf := lf) (n := (i : Int)) F.fit
  rw [placed_node F.ok hp] at hd
  have hn0 := callH_num (lf := lf) (H := H) (n := 0)
  have hloop := fun (env : Env) => k_loop (lf := lf) (ds := ds) F hx hp (hlf x (List.mem_of_getElem? hx)).2 lf 0 env (by have := (hlf x (List.mem_of_getElem? hx)).1; omega) (Nat.zero_le _)
  have r0 : ∃ e, evCode Try.prog (callH lf) lf 237 none (cAt Try.f6 (pG ++ [0])) env ds H = some (.normal, e, ds, H) ∧ e.val 1 = env.val 1 ∧ e.val 2 = env.val 2 ∧ e.val 4 = env.val 4 ∧ e.val 5 = env.val 5 ∧ e.val 8 = env.val 8 := by
    generalize hr : evCode Try.prog (callH lf) lf 237 none (cAt Try.f6 (pG ++ [0])) env ds H = out
    simp [pG, Try.f6, e1, e8, ld1, hb, c1, c1'] at hr
    subst hr
    exact ⟨_, rfl, by simp [e1, e8]⟩
  obtain ⟨a, r0, a1, a2, a4, a5, a8⟩ := r0
  have r1 : ∃ e, evCode Try.prog (callH lf) lf 237 none (cAt Try.f6 (pH ++ [0])) a ds H = some (.normal, e, ds, H) ∧ e.val 1 = a.val 1 ∧ e.val 2 = a.val 2 ∧ e.val 4 = a.val 4 ∧ e.val 5 = a.val 5 ∧ e.val 8 = a.val 8 ∧ e.val 9 = .int .i64 p.vars ∧ e.val 10 = .int .i64 0 := by
    have a1' := a1.trans e1
    have a8' := a8.trans e8
    generalize callH lf = call at hd
    generalize hr : evCode Try.prog call lf 237 none (cAt Try.f6 (pH ++ [0])) a ds H = out
    simp [pH, Try.f6, a1', a8', ld0, callA, hd] at hr
    subst hr
    exact ⟨_, rfl, by simp [a1', a8']⟩
  obtain ⟨b, r1, b1', b2, b4', b5, b8, b9, b10⟩ := r1
  have r2 : ∃ e, evCode Try.prog (callH lf) lf 237 none (cAt Try.f6 (pH ++ [1, 0, 0])) b ds H = some (.normal, e, ds, H) ∧ keepH b e ∧ e.val 11 = .int .i64 ((0 : Nat) : Int) := by
    generalize hr : evCode Try.prog (callH lf) lf 237 none (cAt Try.f6 (pH ++ [1, 0, 0])) b ds H = out
    simp [pH, Try.f6] at hr
    subst hr
    exact ⟨_, rfl, by simp [keepH], by simp⟩
  obtain ⟨c, r2, kc, c11⟩ := r2
  obtain ⟨d, r3, kd⟩ := hloop c (kc.1.trans (b1'.trans (a1.trans e1))) (kc.2.2.1.trans (b4'.trans (a4.trans e4))) (kc.2.2.2.2.1.trans (b8.trans (a8.trans e8))) (kc.2.2.2.2.2.1.trans b9) c11
  have kcd := kc.trans kd
  have d1 := kcd.1.trans (b1'.trans (a1.trans e1))
  have d4 := kcd.2.2.1.trans (b4'.trans (a4.trans e4))
  have d8 := kcd.2.2.2.2.1.trans (b8.trans (a8.trans e8))
  have d10 := kcd.2.2.2.2.2.2.trans b10
  have ld4 : loadA Try.prog 38 H b4 0 = some (.slice (some ⟨wb, 0, none⟩) f.nodes.length f.nodes.length) := by simp [loadA, F.g4]
  have iwi := index38 (b := wb) (n := f.nodes.length) (c := f.nodes.length) (i := (i : Int)) (by omega) (by omega)
  simp only [Int.toNat_natCast] at iwi
  have lwi := load_ints F.gw hw
  have cw : ¬ w = 0 := by omega
  have r4 : ∃ e, evCode Try.prog (callH lf) lf 237 none (cAt Try.f6 (pH ++ [1, 1])) d ds H = some (.normal, e, ds, H) ∧ e.val 1 = d.val 1 ∧ e.val 2 = d.val 2 ∧ e.val 4 = d.val 4 ∧ e.val 5 = d.val 5 ∧ e.val 8 = d.val 8 := by
    generalize callH lf = call at hn0
    generalize hr : evCode Try.prog call lf 237 none (cAt Try.f6 (pH ++ [1, 1])) d ds H = out
    simp [pH, Try.f6, d1, d4, d8, d10, ld4, iwi, lwi, callA, hn0, cw, beqF cw] at hr
    subst hr
    exact ⟨_, rfl, by simp [d1, d4, d8]⟩
  obtain ⟨e, r4, f1, f2, f4, f5, f8⟩ := r4
  have w1 : IntKind.i64.wrap ((i : Int) + 1) = (i : Int) + 1 := wrapI (by omega) (by omega)
  have r5 : ∃ g, evCode Try.prog (callH lf) lf 237 none (cAt Try.f6 (pG ++ [1, 1])) e ds H = some (.normal, g, ds, H) ∧ g.val 1 = e.val 1 ∧ g.val 2 = e.val 2 ∧ g.val 4 = e.val 4 ∧ g.val 5 = e.val 5 ∧ g.val 8 = .int .i64 ((i + 1 : Nat) : Int) := by
    have f8' := f8.trans d8
    generalize hr : evCode Try.prog (callH lf) lf 237 none (cAt Try.f6 (pG ++ [1, 1])) e ds H = out
    simp [pG, Try.f6, f8', w1] at hr
    subst hr
    exact ⟨_, rfl, by simp⟩
  obtain ⟨g, r5, g1, g2, g4, g5, g8⟩ := r5
  have hin : evCode Try.prog (callH lf) lf 237 none (cAt Try.f6 (pH ++ [1, 0])) b ds H = some (.normal, d, ds, H) := by
    rw [ev_then (c := cAt Try.f6 (pH ++ [1, 0])) (b := cAt Try.f6 (pH ++ [1, 0, 1])) rfl r2, show cAt Try.f6 (pH ++ [1, 0, 1]) = .block 4 (.loop (cAt Try.f6 pL2)) from rfl, evCode_block, evCode_loop, r3]
    simp
  have hblk : evCode Try.prog (callH lf) lf 237 none (cAt Try.f6 (pG ++ [1, 0])) a ds H = some (.normal, e, ds, H) := by
    rw [show cAt Try.f6 (pG ++ [1, 0]) = .block 3 (cAt Try.f6 pH) from rfl, evCode_block, ev_then (c := cAt Try.f6 pH) (b := cAt Try.f6 (pH ++ [1])) rfl r1, ev_then (c := cAt Try.f6 (pH ++ [1])) (b := cAt Try.f6 (pH ++ [1, 1])) rfl hin, r4]
  refine ⟨g, by rw [ev_then (c := cAt Try.f6 pG) (b := cAt Try.f6 (pG ++ [1])) rfl r0, ev_then (c := cAt Try.f6 (pG ++ [1])) (b := cAt Try.f6 (pG ++ [1, 1])) rfl hblk, r5], ?_, ?_, ?_, ?_, g8⟩
  · exact g1.trans (f1.trans (kcd.1.trans (b1'.trans a1)))
  · exact g2.trans (f2.trans (kcd.2.1.trans (b2.trans a2)))
  · exact g4.trans (f4.trans (kcd.2.2.1.trans (b4'.trans a4)))
  · exact g5.trans (f5.trans (kcd.2.2.2.1.trans (b5.trans a5)))

theorem n_loop {lf : Nat} {ds : List ADef} {f : FunD} {ps : List Pl} {W : List Int} {xs : List (List Value)} {b1 b4 wb : Nat} {s : Value} {H : Heap} (F : HFix f ps W xs b1 b4 wb s H) (hlf : ∀ x ∈ f.nodes, x.l.length < lf ∧ x.l.length < 1099511627776) : ∀ (m i : Nat) (env : Env), f.nodes.length < m + i → i ≤ f.nodes.length →
    env.val 1 = .pointer (some ⟨b1, 0, none⟩) → env.val 4 = .pointer (some ⟨b4, 0, none⟩) → env.val 8 = .int .i64 i →
    ∃ e, evLoop Try.prog (callH lf) lf 237 none (cAt Try.f6 pG) m env ds H = some (.exit 2, e, ds, H) ∧ e.val 1 = env.val 1 ∧ e.val 2 = env.val 2 ∧ e.val 4 = env.val 4 ∧ e.val 5 = env.val 5
  | 0, i, env, hm, hi, _, _, _ => by omega
  | m + 1, i, env, hm, hi, e1, e4, e8 => by
    by_cases hlt : i < f.nodes.length
    · obtain ⟨e, he, k1, k2, k4, k5, k8⟩ := n_round (lf := lf) (ds := ds) F hlt hlf e1 e4 e8
      simp only [evLoop_succ, he]
      obtain ⟨e2, h2, l1, l2, l4, l5⟩ := n_loop F hlf m (i + 1) e (by omega) (by omega) (k1.trans e1) (k4.trans e4) k8
      exact ⟨e2, h2, l1.trans k1, l2.trans k2, l4.trans k4, l5.trans k5⟩
    · have hb := len_of (H' := H) (P := Try.prog) (t := 22) F.hs Try.underlying22
      have ld1 : loadA Try.prog 22 H b1 1 = some s := by simp [loadA, F.g1]
      have hxl := F.xl
      have c1 : ¬ (i : Int) < (xs.length : Int) := by omega
      have c1' : ¬ i < xs.length := by omega
      have he : ∃ e, evCode Try.prog (callH lf) lf 237 none (cAt Try.f6 pG) env ds H = some (.exit 2, e, ds, H) ∧ e.val 1 = env.val 1 ∧ e.val 2 = env.val 2 ∧ e.val 4 = env.val 4 ∧ e.val 5 = env.val 5 := by
        generalize hr : evCode Try.prog (callH lf) lf 237 none (cAt Try.f6 pG) env ds H = out
        simp [pG, Try.f6, e1, e8, ld1, hb, c1, c1'] at hr
        subst hr
        exact ⟨_, rfl, by simp [e1]⟩
      obtain ⟨e, he, h⟩ := he
      simp only [evLoop_succ, he]
      exact ⟨e, rfl, h⟩
end Go.Proofs.Ytpopkajkekceiaa

namespace Go.Proofs.Ytpopkajkekceiaa
open Go Go.Abs
set_option maxRecDepth 100000
set_option linter.unusedSimpArgs false
set_option linter.unusedVariables false

theorem h_R15 {lf : Nat} {env : Env} {ds : List ADef} {H : Heap} {b1 b2 b5 : Nat} {p s : Value} {f : FunD} {cnt : Nat} (g1 : H.get b1 = some (.cells true 2 [p, s])) (g2 : H.get b2 = some (.cells true 1 [.bool false])) (g5 : H.get b5 = some (.cells true 1 [.int .i64 (cnt : Int)])) (hf : rdFit H (.agg #[p, s]) = some f)
    (e1 : env.val 1 = .pointer (some ⟨b1, 0, none⟩)) (e2 : env.val 2 = .pointer (some ⟨b2, 0, none⟩)) (e5 : env.val 5 = .pointer (some ⟨b5, 0, none⟩)) :
    ((whereL f).2 = 0 → ∃ e, evCode Try.prog (callH lf) lf 237 none (cAt Try.f6 [1, 1, 1, 1, 1, 1, 1, 0]) env ds H = some (.normal, e, ds, H) ∧ e.val 1 = env.val 1 ∧ e.val 2 = env.val 2 ∧ e.val 4 = env.val 4 ∧ e.val 5 = env.val 5) ∧
    ((whereL f).2 ≠ 0 → cnt = 0 → ∃ e, evCode Try.prog (callH lf) lf 237 none (cAt Try.f6 [1, 1, 1, 1, 1, 1, 1, 0]) env ds H = some (.ret, e, ds, H.set b2 (.cells true 1 [.bool true])) ∧ e.val 2 = env.val 2) := by
  have ld0 : loadA Try.prog 24 H b1 0 = some (.agg #[p, s]) := by simp [loadA, g1]
  have l5 : loadA Try.prog 3 H b5 0 = some (.int .i64 (cnt : Int)) := by simp [loadA, g5]
  have hc := callH_check (lf := lf) hf
  have hn := callH_num (lf := lf) (H := H) (n := (whereL f).2)
  have hw := callH_works (lf := lf) (H := H)
  have st : storeA Try.prog 4 H b2 0 (.bool true) = some (H.set b2 (.cells true 1 [.bool true])) := by
    simp [storeA, g2, putL]
  generalize callH lf = call at hc hn hw
  constructor
  · intro h0
    rw [h0] at hc hn
    generalize hr : evCode Try.prog call lf 237 none (cAt Try.f6 [1, 1, 1, 1, 1, 1, 1, 0]) env ds H = out
    simp [Try.f6, e1, ld0, callA, hc, hn] at hr
    subst hr
    exact ⟨_, rfl, by simp [e1]⟩
  · intro h0 hcnt
    subst hcnt
    generalize hr : evCode Try.prog call lf 237 none (cAt Try.f6 [1, 1, 1, 1, 1, 1, 1, 0]) env ds H = out
    simp at l5
    simp [Try.f6, e1, e2, e5, ld0, l5, callA, hc, hn, hw, st, bneT h0] at hr
    subst hr
    exact ⟨_, rfl, by simp [e2]⟩

theorem h_tail {lf : Nat} {env : Env} {ds : List ADef} {f : FunD} {ps : List Pl} {W : List Int} {xs : List (List Value)} {b1 b2 b4 wb b5 : Nat} {s : Value} {H : Heap} (F : HFix f ps W xs b1 b4 wb s H) (g2 : H.get b2 = some (.cells true 1 [.bool false])) (g5 : H.get b5 = some (.cells true 1 [.int .i64 (f.nodes.length : Int)]))
    (hlf : ∀ x ∈ f.nodes, x.l.length < lf ∧ x.l.length < 1099511627776) (hlf2 : f.nodes.length < lf)
    (e1 : env.val 1 = .pointer (some ⟨b1, 0, none⟩)) (e2 : env.val 2 = .pointer (some ⟨b2, 0, none⟩)) (e4 : env.val 4 = .pointer (some ⟨b4, 0, none⟩)) (e5 : env.val 5 = .pointer (some ⟨b5, 0, none⟩)) :
    ∃ e, evCode Try.prog (callH lf) lf 237 none (cAt Try.f6 [1, 1, 1, 1, 1, 1, 1, 1]) env ds H = some (.ret, e, ds, H.set b2 (.cells true 1 [.bool true])) ∧ e.val 2 = env.val 2 := by
  obtain ⟨hI, hn0, hn200, _, _⟩ := ti_looked F.ok
  have r0 : ∃ e, evCode Try.prog (callH lf) lf 237 none (cAt Try.f6 [1, 1, 1, 1, 1, 1, 1, 1, 0, 0]) env ds H = some (.normal, e, ds, H) ∧ e.val 1 = env.val 1 ∧ e.val 2 = env.val 2 ∧ e.val 4 = env.val 4 ∧ e.val 5 = env.val 5 ∧ e.val 8 = .int .i64 ((0 : Nat) : Int) := by
    generalize hr : evCode Try.prog (callH lf) lf 237 none (cAt Try.f6 [1, 1, 1, 1, 1, 1, 1, 1, 0, 0]) env ds H = out
    simp [Try.f6] at hr
    subst hr
    exact ⟨_, rfl, by simp⟩
  obtain ⟨a, r0, a1, a2, a4, a5, a8⟩ := r0
  obtain ⟨b, r1, b1', b2', b4', b5'⟩ := n_loop (lf := lf) (ds := ds) F hlf lf 0 a (by omega) (Nat.zero_le _) (a1.trans e1) (a4.trans e4) a8
  have hd := callH_depth (lf := lf) (n := 0) F.fit
  have hp0 := placed_node F.ok hI.zero
  rw [show ((0 : Nat) : Int) = 0 from rfl] at hp0
  rw [hp0] at hd
  have ld0 : loadA Try.prog 24 H b1 0 = some (.agg #[.int .i64 f.params, s]) := by simp [loadA, F.g1]
  have ld1 : loadA Try.prog 22 H b1 1 = some s := by simp [loadA, F.g1]
  have ldp : loadA Try.prog 3 H b1 0 = some (.int .i64 f.params) := by simp [loadA, F.g1]
  have v1 := b1'.trans (a1.trans e1)
  have v2 := b2'.trans (a2.trans e2)
  have v4 := b4'.trans (a4.trans e4)
  have v5 := b5'.trans (a5.trans e5)
  have r2 : ∃ c, evCode Try.prog (callH lf) lf 237 none (cAt Try.f6 [1, 1, 1, 1, 1, 1, 1, 1, 1, 0]) b ds H = some (.normal, c, ds, H) ∧ c.val 1 = b.val 1 ∧ c.val 2 = b.val 2 ∧ c.val 4 = b.val 4 ∧ c.val 5 = b.val 5 ∧ c.val 18 = .int .i64 f.params ∧ c.val 19 = .int .i64 0 := by
    generalize callH lf = call at hd
    generalize hr : evCode Try.prog call lf 237 none (cAt Try.f6 [1, 1, 1, 1, 1, 1, 1, 1, 1, 0]) b ds H = out
    simp [Try.f6, v1, ld0, callA, hd] at hr
    subst hr
    exact ⟨_, rfl, by simp [v1]⟩
  obtain ⟨c, r2, c1, c2, c4, c5, c18, c19⟩ := r2
  have hn0' := callH_num (lf := lf) (H := H) (n := 0)
  have hw := callH_works (lf := lf) (H := H)
  have hb := len_of (H' := H) (P := Try.prog) (t := 22) F.hs Try.underlying22
  rw [F.xl] at hb
  have l5 : loadA Try.prog 3 H b5 0 = some (.int .i64 (f.nodes.length : Int)) := by simp [loadA, g5]
  have ld4 : loadA Try.prog 38 H b4 0 = some (.slice (some ⟨wb, 0, none⟩) f.nodes.length f.nodes.length) := by simp [loadA, F.g4]
  have iw := index38 (b := wb) (n := f.nodes.length) (c := f.nodes.length) (i := 0) (by omega) (by omega)
  simp only [Int.toNat_zero] at iw
  have lw := load_ints F.gw F.root
  have st : storeA Try.prog 4 H b2 0 (.bool true) = some (H.set b2 (.cells true 1 [.bool true])) := by
    simp [storeA, g2, putL]
  have u1 := c1.trans v1
  have u2 := c2.trans v2
  have u4 := c4.trans v4
  have u5 := c5.trans v5
  have r3 : ∃ d, evCode Try.prog (callH lf) lf 237 none (cAt Try.f6 [1, 1, 1, 1, 1, 1, 1, 1, 1, 1]) c ds H = some (.ret, d, ds, H.set b2 (.cells true 1 [.bool true])) ∧ d.val 2 = c.val 2 := by
    generalize callH lf = call at hn0' hw
    generalize hr : evCode Try.prog call lf 237 none (cAt Try.f6 [1, 1, 1, 1, 1, 1, 1, 1, 1, 1]) c ds H = out
    simp [Try.f6] at hr
    rw [evDraw_tab (tab := [])] at hr
    · simp [u1, u2, u4, u5, c18, c19, ldp, ld1, hb, l5, ld4, iw, lw, callA, hn0', hw, st] at hr
      subst hr
      exact ⟨_, rfl, by simp [u2]⟩
    · kernel_rfl
    · kernel_rfl
  obtain ⟨d, r3, d2⟩ := r3
  refine ⟨d, ?_, d2.trans (c2.trans (b2'.trans a2))⟩
  have hblk : evCode Try.prog (callH lf) lf 237 none (cAt Try.f6 [1, 1, 1, 1, 1, 1, 1, 1, 0]) env ds H = some (.normal, b, ds, H) := by
    rw [ev_then (c := cAt Try.f6 [1, 1, 1, 1, 1, 1, 1, 1, 0]) (b := cAt Try.f6 [1, 1, 1, 1, 1, 1, 1, 1, 0, 1]) rfl r0, show cAt Try.f6 [1, 1, 1, 1, 1, 1, 1, 1, 0, 1] = .block 2 (.loop (cAt Try.f6 pG)) from rfl, evCode_block, evCode_loop, r1]
    simp
  rw [ev_then (c := cAt Try.f6 [1, 1, 1, 1, 1, 1, 1, 1]) (b := cAt Try.f6 [1, 1, 1, 1, 1, 1, 1, 1, 1]) rfl hblk, ev_then (c := cAt Try.f6 [1, 1, 1, 1, 1, 1, 1, 1, 1]) (b := cAt Try.f6 [1, 1, 1, 1, 1, 1, 1, 1, 1, 1]) rfl r2, r3]

theorem h_leave {lf : Nat} {env : Env} {H : Heap} {b2 : Nat} {b : Bool} (e2 : env.val 2 = .pointer (some ⟨b2, 0, none⟩)) (g2 : H.get b2 = some (.cells true 1 [.bool b])) :
    fnEnd Try.prog (callH lf) lf Try.f6 (some (.ret, env, [], H)) = some (.ret (.bool b), H) := by
  have ld : loadA Try.prog 4 H b2 0 = some (.bool b) := by simp [loadA, g2]
  simp [fnEnd, Try.f6, e2, ld]
theorem h_leave_mark {lf : Nat} {env : Env} {H : Heap} {b2 d : Nat} {b : Bool} (e2 : env.val 2 = .pointer (some ⟨b2, 0, none⟩)) (g2 : H.get b2 = some (.cells true 1 [.bool b])) (gd : H.get d = some .defs) (hne : b2 ≠ d) :
    fnEnd Try.prog (callH lf) lf Try.f6 (some (.ret, env, [.mark d], H)) = some (.ret (.bool b), H.set d .dead) := by
  have ld : loadA Try.prog 4 (H.set d .dead) b2 0 = some (.bool b) := by rw [loadA_set hne]; simp [loadA, g2]
  simp [fnEnd, Try.f6, e2, gd, ld]

theorem holds_run {H : Heap} {v : Value} {f : FunD} (hw : H.Wf) (hf : rdFun H v = some f) : ∃ lf H', evFn Try.prog (callH lf) lf 6 [v] H = some (.ret (.bool true), H') := by
  refine ⟨roomOf f + 400, ?_⟩
  obtain ⟨rm1, rm2⟩ := roomOf_node f
  have hfn : ∀ {lf : Nat} {out}, evCode Try.prog (callH lf) lf 237 none (cAt Try.f6 []) (envOf 0 [v] .nil) [] H = out → evFn Try.prog (callH lf) lf 6 [v] H = fnEnd Try.prog (callH lf) lf Try.f6 out := by
    intro lf out h
    rw [evFn_at Try.func6 body6 (by simp), Try.ntmps6, h]
  have hlf : 300 ≤ roomOf f + 400 := by omega
  generalize hlfe : roomOf f + 400 = lf at *
  cases hfew : fewL f with
  | false =>
    obtain ⟨s, rfl, hs1, _, _⟩ := rdFun_cells hf
    obtain ⟨e0, r0, v1, v2⟩ := h_R0 (call := callH lf) (lf := lf) (H := H) (p := .int .i64 f.params) rfl hs1
    have w1 := hw.push (.cells true 2 [.int .i64 f.params, s])
    have x2 := (Ext.push hw (.cells true 2 [.int .i64 f.params, s])).to_push w1 (.cells true 1 [.bool false])
    have g1 : ((H.push (.cells true 2 [.int .i64 f.params, s])).push (.cells true 1 [.bool false])).get H.next = some (.cells true 2 [.int .i64 f.params, s]) := by rw [get_push_ne (by simp)]; exact get_push_self _ _
    have g2 : ((H.push (.cells true 2 [.int .i64 f.params, s])).push (.cells true 1 [.bool false])).get (H.next + 1) = some (.cells true 1 [.bool false]) := get_push_self (H.push _) _
    have hc := callH_few (lf := lf) (rdFun_ext x2 hf)
    rw [hfew] at hc
    obtain ⟨e1, r1, m2⟩ := (h_R1 (lf := lf) g1 g2 hc v1 v2).2 rfl
    refine ⟨_, (hfn (by rw [ev_then (c := cAt Try.f6 []) (b := cAt Try.f6 [1]) rfl r0, ev_stop (c := cAt Try.f6 [1]) (a := cAt Try.f6 [1, 0]) (b := cAt Try.f6 [1, 1]) rfl r1 (by simp)])).trans (h_leave (m2.trans v2) (get_set_self _ _ _))⟩
  | true =>
    obtain ⟨E, d, b1, b2, b4, wb, b5, R, cnt, H', s, rfl, hst, e1, e2, e4, e5, hE, hcase⟩ := h_start hlf hw hf hfew
    have hfits := few_fits hfew
    have hfit := rdFit_of (rdFun_ext hE.ext hf) hfits
    obtain ⟨c1, c2⟩ := h_R15 (lf := lf) (env := E) (ds := [.mark d]) hE.g1 hE.g2 hE.g5 hfit e1 e2 e5
    have gd' : (H'.set b2 (.cells true 1 [.bool true])).get d = some .defs := by rw [get_set_ne (Ne.symm hE.nd)]; exact hE.gd
    rcases hcase with ⟨ps, hL, hD, rfl⟩ | ⟨i, hL, rfl⟩
    · have h0 : (whereL f).2 = 0 := by simp only [whereL, hL]
      obtain ⟨a, r1, a1, a2, a4, a5⟩ := c1 h0
      obtain ⟨s', xs, hv, _, hs, hlen, hx⟩ := rdFun_inv (rdFun_ext hE.ext hf)
      have hss : s = s' := by simpa using hv
      subst hss
      obtain ⟨W, gw, hW⟩ := hE.gw
      have hn200 := (ti_looked hL).2.2.1
      have F : HFix f ps W xs b1 b4 wb s H' := ⟨hE.g1, hE.g4, gw, hs, fun i x hi => by obtain ⟨s', a, _, b⟩ := hx i x hi; exact ⟨s', a, b⟩, hfit, hL, hlen, fun i c hc => when_kid hL hD hW hc, fun i k c1 c2 h1 h2 => when_sib hL hD hW h1 h2, fun i hi => by
        obtain ⟨a, _, ha, hwa⟩ := when_at hL hD hW hi
        exact ⟨_, hwa, by omega⟩, when_root hL hD hW⟩
      obtain ⟨b, r2, b2'⟩ := h_tail (lf := lf) (env := a) (ds := [.mark d]) F hE.g2 hE.g5 (fun x hx => ⟨by have := rm2 x hx; omega, hfits x hx⟩) (by omega) (a1.trans e1) (a2.trans e2) (a4.trans e4) (a5.trans e5)
      refine ⟨_, (hfn (hst.trans ?_)).trans (h_leave_mark (b2'.trans (a2.trans e2)) (get_set_self _ _ _) gd' hE.nd)⟩
      rw [ev_then (c := cAt Try.f6 [1, 1, 1, 1, 1, 1, 1]) (b := cAt Try.f6 [1, 1, 1, 1, 1, 1, 1, 1]) rfl r1, r2]
    · have h0 : (whereL f).2 ≠ 0 := by simp only [whereL, hL]; omega
      obtain ⟨a, r1, a2⟩ := c2 h0 rfl
      refine ⟨_, (hfn (hst.trans ?_)).trans (h_leave_mark (a2.trans e2) (get_set_self _ _ _) gd' hE.nd)⟩
      rw [ev_stop (c := cAt Try.f6 [1, 1, 1, 1, 1, 1, 1]) (a := cAt Try.f6 [1, 1, 1, 1, 1, 1, 1, 0]) (b := cAt Try.f6 [1, 1, 1, 1, 1, 1, 1, 1]) rfl r1 (by simp)]
end Go.Proofs.Ytpopkajkekceiaa
