/-
  A part of a proof: texts laid behind one another (W57, W58, W59, W60, W61, W62, W63, W64, W65, W66, W67, W68).
-/
import Derived.Test.YtpopkajkekceiaaGW3
import Derived.Test.YtpopkajkekceiaaGA4
namespace Go.Proofs.Ytpopkajkekceiaa
open Go Go.Abs
set_option maxRecDepth 100000
set_option linter.unusedSimpArgs false
set_option linter.unusedVariables false

/-! ### slices.Equal of whole numbers (46) -/
def pE : List Nat := [1, 1, 0, 1, 0, 0]

theorem eq_exit {call : CallF} {lf : Nat} {env : Env} {H : Heap} {i n : Nat} (e12 : env.val 12 = .int .i64 n) (e13 : env.val 13 = .int .i64 i) (hi : n ≤ i) :
    ∃ env', evCode Try.prog call lf 26 none (cAt Try.f46 pE) env [] H = some (.exit 0, env', [], H) := by
  have c1 : ¬ (i : Int) < (n : Int) := by omega
  generalize hr : evCode Try.prog call lf 26 none (cAt Try.f46 pE) env [] H = out
  simp [pE, Try.f46, e12, e13, c1, hi] at hr
  subst hr
  exact ⟨_, rfl⟩

theorem eq_step {call : CallF} {lf : Nat} {env : Env} {H : Heap} {u v : Value} {xs ys : List Int} {i n : Nat} {x y : Int} (hu : rdInts H .i64 u = some xs) (hv : rdInts H .i64 v = some ys) (hx : xs[i]? = some x) (hy : ys[i]? = some y) (hn : n < 1099511627776) (hi : i < n)
    (e0 : env.val 0 = u) (e1 : env.val 1 = v) (e12 : env.val 12 = .int .i64 n) (e13 : env.val 13 = .int .i64 i) :
    (x ≠ y → ∃ env', evCode Try.prog call lf 26 none (cAt Try.f46 pE) env [] H = some (.ret, env', [], H) ∧ env'.val 4 = .bool false) ∧
    (x = y → ∃ env', evCode Try.prog call lf 26 none (cAt Try.f46 pE) env [] H = some (.normal, env', [], H) ∧ env'.val 0 = u ∧ env'.val 1 = v ∧ env'.val 12 = .int .i64 n ∧ env'.val 13 = .int .i64 ((i + 1 : Nat) : Int)) := by
  have c1 : (i : Int) < (n : Int) := by omega
  obtain ⟨ix, lx⟩ := rdInts_at hu hx Try.underlying38 info3 rfl Try.underlying3 rfl
  obtain ⟨iy, ly⟩ := rdInts_at hv hy Try.underlying38 info3 rfl Try.underlying3 rfl
  have w1 : IntKind.i64.wrap ((i : Int) + 1) = (i : Int) + 1 := wrapI (by omega) (by omega)
  generalize hr : evCode Try.prog call lf 26 none (cAt Try.f46 pE) env [] H = out
  by_cases hxy : x = y
  · subst hxy
    simp [pE, Try.f46, e12, e13, c1, hi] at hr
    rw [evDraw_tab (tab := [])] at hr
    · simp [e0, e1, e12, e13, ix, iy, lx, ly, w1] at hr
      subst hr
      exact ⟨fun h => absurd rfl h, fun _ => ⟨_, rfl, by simp [e0, e1, e12]⟩⟩
    · kernel_rfl
    · kernel_rfl
  · simp [pE, Try.f46, e12, e13, c1, hi] at hr
    rw [evDraw_tab (tab := [])] at hr
    · have hb : (x != y) = true := by simp [hxy]
      simp [e0, e1, e12, e13, ix, iy, lx, ly, w1, hb] at hr
      subst hr
      exact ⟨fun _ => ⟨_, rfl, by simp⟩, fun h => absurd h hxy⟩
    · kernel_rfl
    · kernel_rfl

theorem eq_loop {call : CallF} {lf : Nat} {H : Heap} {u v : Value} {xs ys : List Int} (hu : rdInts H .i64 u = some xs) (hv : rdInts H .i64 v = some ys) (hab : xs.length = ys.length) (hn : xs.length < 1099511627776) : ∀ (d i m : Nat) (env : Env), d < m → xs.length = i + d →
    env.val 0 = u → env.val 1 = v → env.val 12 = .int .i64 xs.length → env.val 13 = .int .i64 i →
    (xs.drop i = ys.drop i → ∃ env', evLoop Try.prog call lf 26 none (cAt Try.f46 pE) m env [] H = some (.exit 0, env', [], H)) ∧
    (xs.drop i ≠ ys.drop i → ∃ env', evLoop Try.prog call lf 26 none (cAt Try.f46 pE) m env [] H = some (.ret, env', [], H) ∧ env'.val 4 = .bool false)
  | d, i, 0, env, hm, _, _, _, _, _ => by omega
  | 0, i, m + 1, env, hm, hl, e0, e1, e12, e13 => by
    obtain ⟨env', he⟩ := eq_exit (call := call) (lf := lf) (H := H) e12 e13 (by omega)
    simp only [evLoop_succ, he]
    refine ⟨fun _ => ⟨_, rfl⟩, fun h => absurd ?_ h⟩
    rw [List.drop_eq_nil_of_le (by omega), List.drop_eq_nil_of_le (by omega)]
  | d + 1, i, m + 1, env, hm, hl, e0, e1, e12, e13 => by
    have hx := List.getElem?_eq_getElem (l := xs) (i := i) (by omega)
    have hy := List.getElem?_eq_getElem (l := ys) (i := i) (by omega)
    obtain ⟨g1, g2⟩ := eq_step (call := call) (lf := lf) hu hv hx hy hn (by omega) e0 e1 e12 e13
    rw [List.drop_eq_getElem_cons (l := xs) (i := i) (by omega), List.drop_eq_getElem_cons (l := ys) (i := i) (by omega)]
    by_cases hxy : xs[i]'(by omega) = ys[i]'(by omega)
    · obtain ⟨env', he, k0, k1, k12, k13⟩ := g2 hxy
      obtain ⟨r1, r2⟩ := eq_loop (call := call) (lf := lf) hu hv hab hn d (i + 1) m env' (by omega) (by omega) k0 k1 k12 k13
      simp only [evLoop_succ, he]
      rw [hxy]
      exact ⟨fun h => r1 (List.cons.inj h).2, fun h => r2 (fun e => h (by rw [e]))⟩
    · obtain ⟨env', he, k⟩ := g1 hxy
      simp only [evLoop_succ, he]
      exact ⟨fun h => absurd (List.cons.inj h).1 hxy, fun _ => ⟨_, rfl, k⟩⟩

noncomputable def intsOk (H : Heap) (v : Value) : Option (List Int) := match rdInts H .i64 v with
  | some l => if l.length < 1099511627776 then some l else none
  | none => none
theorem intsOk_inv {H : Heap} {v : Value} {l : List Int} (h : intsOk H v = some l) : rdInts H .i64 v = some l ∧ l.length < 1099511627776 := by
  unfold intsOk at h
  split at h
  · split at h
    · cases h; rename_i h1 h2; exact ⟨h1, h2⟩
    · cases h
  · cases h
theorem intsOk_of {H : Heap} {v : Value} {l : List Int} (h : rdInts H .i64 v = some l) (hl : l.length < 1099511627776) : intsOk H v = some l := by
  unfold intsOk; rw [h]; simp only; rw [if_pos hl]

/-- slices.Equal. -/
noncomputable def equalC : Contract Try.prog := Contract.plain 46
  (fun args H => match args with
    | [u, v] => match intsOk H u, intsOk H v with
      | some xs, some ys => some (.ret (.bool (decide (xs = ys))))
      | _, _ => none
    | _ => none) (by
    intro args H res hw hr
    split at hr
    · rename_i u v
      split at hr
      · rename_i xs ys h1 h2
        simp only [Option.some.injEq] at hr
        subst hr
        obtain ⟨hu, hl⟩ := intsOk_inv h1
        obtain ⟨hv, hl2⟩ := intsOk_inv h2
        refine ⟨rfl, fun _ _ => none, H, noCall_ok, xs.length + 1, ?_, fun _ _ h => h⟩
        have lu := len_of (H' := H) (P := Try.prog) (t := 38) (rdInts_rd hu) Try.underlying38
        have lv := len_of (H' := H) (P := Try.prog) (t := 38) (rdInts_rd hv) Try.underlying38
        simp only [List.length_map] at lu lv
        generalize hr : evFn Try.prog (fun _ _ => none) (xs.length + 1) 46 [u, v] H = out
        by_cases hab : xs.length = ys.length
        · have c1 : (xs.length : Int) = (ys.length : Int) := by omega
          simp [Try.f46, lu, lv, c1, hab] at hr
          generalize hL : evLoop _ _ _ _ _ _ _ _ _ _ = L at hr
          rw [← hab] at hL
          have aux : ∀ env, evLoop Try.prog (fun _ _ => none) (xs.length + 1) 26 none (cAt Try.f46 pE) (xs.length + 1) env [] H = L → env.val 0 = u → env.val 1 = v → env.val 12 = .int .i64 xs.length → env.val 13 = .int .i64 (0 : Nat) →
              (xs = ys → ∃ env', L = some (.exit 0, env', [], H)) ∧ (xs ≠ ys → ∃ env', L = some (.ret, env', [], H) ∧ env'.val 4 = .bool false) := by
            intro env hL e0 e1 e12 e13
            have := eq_loop (call := fun _ _ => none) (lf := xs.length + 1) hu hv hab hl xs.length 0 (xs.length + 1) env (Nat.lt_succ_self _) (by omega) e0 e1 e12 e13
            rw [hL] at this
            simpa using this
          obtain ⟨g1, g2⟩ := aux _ hL (by simp) (by simp) (by simp) (by simp)
          by_cases hxy : xs = ys
          · obtain ⟨env', rfl⟩ := g1 hxy
            simpa [hxy] using hr.symm
          · obtain ⟨env', rfl, k⟩ := g2 hxy
            simpa [hxy, k] using hr.symm
        · have c1 : ¬ (xs.length : Int) = (ys.length : Int) := by omega
          have hne : ¬ xs = ys := fun e => hab (by rw [e])
          have hb : ((xs.length : Int) != (ys.length : Int)) = true := by simp [c1]
          simp [Try.f46, lu, lv, hb] at hr
          subst hr
          simp [hne]
      · cases hr
    · cases hr)
theorem equal_hit {cs : List (Contract Try.prog)} {H : Heap} {u v : Value} {xs ys : List Int} (h1 : rdInts H .i64 u = some xs) (h2 : rdInts H .i64 v = some ys) (l1 : xs.length < 1099511627776) (l2 : ys.length < 1099511627776) : callOf (equalC :: cs) (.fn 46 [u, v]) H = some (.ret (.bool (decide (xs = ys))), H) :=
  callOf_hit rfl (by simp [equalC, Contract.plain, intsOk_of h1 l1, intsOk_of h2 l2])
end Go.Proofs.Ytpopkajkekceiaa

namespace Go.Proofs.Ytpopkajkekceiaa
open Go Go.Abs
set_option maxRecDepth 100000
set_option linter.unusedSimpArgs false
set_option linter.unusedVariables false

/-! ### Same's $1 (45): two nodes -/
def sameN (x y : NodeD) : Bool := decide (x.op = y.op) && (decide (x.n = y.n) && decide (x.l = y.l))

noncomputable def nodeOk (H : Heap) : Value → Option NodeD
  | .agg cs => match rdNode H cs.toList with
    | some x => if x.l.length < 1099511627776 then some x else none
    | none => none
  | _ => none
theorem nodeOk_inv {H : Heap} {v : Value} {x : NodeD} (h : nodeOk H v = some x) : ∃ s, v = .agg #[.int .i64 x.op, .int .i64 x.n, s] ∧ rdInts H .i64 s = some x.l ∧ x.l.length < 1099511627776 := by
  unfold nodeOk at h
  split at h
  · rename_i cs
    split at h
    · rename_i y hy
      split at h
      · rename_i hl
        cases h
        unfold rdNode at hy
        split at hy
        · rename_i op n s hcs
          split at hy
          · rename_i l _ hl2
            cases hy
            exact ⟨s, by congr 1; apply Array.toList_inj.1; rw [hcs], hl2, hl⟩
          · cases hy
        · cases hy
      · cases h
    · cases h
  · cases h
theorem nodeOk_of {H : Heap} {x : NodeD} {s : Value} (h : rdInts H .i64 s = some x.l) (hl : x.l.length < 1099511627776) : nodeOk H (.agg #[.int .i64 x.op, .int .i64 x.n, s]) = some x := by
  simp [nodeOk, rdNode, smallN, h, hl]

noncomputable def c45 : List (Contract Try.prog) := [equalC]

theorem ints_one {H : Heap} {s : Value} {l : List Int} (h : rdInts H .i64 s = some l) : s.cells = #[s] ∧ oneC s = true := let ⟨a, b, _⟩ := rdS_one (rdInts_rd h); ⟨a, b⟩

/-- Same's $1. -/
noncomputable def sameNC : Contract Try.prog := Contract.plain 45
  (fun args H => match args with
    | [u, v] => match nodeOk H u, nodeOk H v with
      | some x, some y => some (.ret (.bool (sameN x y)))
      | _, _ => none
    | _ => none) (by
    intro args H res hw hr
    split at hr
    · rename_i u v
      split at hr
      · rename_i x y h1 h2
        simp only [Option.some.injEq] at hr
        subst hr
        obtain ⟨s, rfl, hs, ls⟩ := nodeOk_inv h1
        obtain ⟨s', rfl, hs', ls'⟩ := nodeOk_inv h2
        obtain ⟨hc, ho⟩ := ints_one hs
        obtain ⟨hc', ho'⟩ := ints_one hs'
        have x1 := Ext.push hw (.cells true 3 [.int .i64 x.op, .int .i64 x.n, s])
        have w1 := hw.push (.cells true 3 [.int .i64 x.op, .int .i64 x.n, s])
        have x2 := x1.trans (Ext.push w1 (.cells true 3 [.int .i64 y.op, .int .i64 y.n, s']))
        have k := equal_hit (cs := []) (rdInts_ext x2 hs) (rdInts_ext x2 hs') ls ls'
        have g1 : ((H.push (.cells true 3 [.int .i64 x.op, .int .i64 x.n, s])).push (.cells true 3 [.int .i64 y.op, .int .i64 y.n, s'])).get H.next = some (.cells true 3 [.int .i64 x.op, .int .i64 x.n, s]) := by
          rw [get_push_ne (by simp), get_push_self]
        have g2 : ((H.push (.cells true 3 [.int .i64 x.op, .int .i64 x.n, s])).push (.cells true 3 [.int .i64 y.op, .int .i64 y.n, s'])).get (H.next + 1) = some (.cells true 3 [.int .i64 y.op, .int .i64 y.n, s']) := get_push_self _ _
        have a0 : loadA Try.prog 37 ((H.push (.cells true 3 [.int .i64 x.op, .int .i64 x.n, s])).push (.cells true 3 [.int .i64 y.op, .int .i64 y.n, s'])) H.next 0 = some (.int .i64 x.op) := by simp [loadA, g1]
        have a1 : loadA Try.prog 2 ((H.push (.cells true 3 [.int .i64 x.op, .int .i64 x.n, s])).push (.cells true 3 [.int .i64 y.op, .int .i64 y.n, s'])) H.next 1 = some (.int .i64 x.n) := by simp [loadA, g1]
        have a2 : loadA Try.prog 38 ((H.push (.cells true 3 [.int .i64 x.op, .int .i64 x.n, s])).push (.cells true 3 [.int .i64 y.op, .int .i64 y.n, s'])) H.next 2 = some s := by simp [loadA, g1]
        have b0 : loadA Try.prog 37 ((H.push (.cells true 3 [.int .i64 x.op, .int .i64 x.n, s])).push (.cells true 3 [.int .i64 y.op, .int .i64 y.n, s'])) (H.next + 1) 0 = some (.int .i64 y.op) := by simp [loadA, g2]
        have b1 : loadA Try.prog 2 ((H.push (.cells true 3 [.int .i64 x.op, .int .i64 x.n, s])).push (.cells true 3 [.int .i64 y.op, .int .i64 y.n, s'])) (H.next + 1) 1 = some (.int .i64 y.n) := by simp [loadA, g2]
        have b2 : loadA Try.prog 38 ((H.push (.cells true 3 [.int .i64 x.op, .int .i64 x.n, s])).push (.cells true 3 [.int .i64 y.op, .int .i64 y.n, s'])) (H.next + 1) 2 = some s' := by simp [loadA, g2]
        refine ⟨rfl, callOf c45, _, callOf_ok _, 0, ?_, x2⟩
        generalize hr : evFn Try.prog (callOf c45) 0 45 [.agg #[.int .i64 x.op, .int .i64 x.n, s], .agg #[.int .i64 y.op, .int .i64 y.n, s']] H = out
        unfold sameN
        by_cases c1 : x.op = y.op
        · have d1 : (x.op == y.op) = true := by simp [c1]
          by_cases c2 : x.n = y.n
          · have d2 : (x.n == y.n) = true := by simp [c2]
            simp [Try.f45, ho, ho', a0, a1, a2, b0, b1, b2, d1, d2, callA, c45, k, undef, -beq_iff_eq] at hr
            subst hr
            simp [c1, c2]
          · have d2 : (x.n == y.n) = false := by simp [c2]
            simp [Try.f45, ho, ho', a0, a1, a2, b0, b1, b2, d1, d2, callA, c45, k, undef, -beq_iff_eq] at hr
            subst hr
            simp [c1, c2]
        · have d1 : (x.op == y.op) = false := by simp [c1]
          simp [Try.f45, ho, ho', a0, a1, a2, b0, b1, b2, d1, callA, c45, k, undef, -beq_iff_eq] at hr
          subst hr
          simp [c1]
      · cases hr
    · cases hr)
theorem sameN_hit {cs : List (Contract Try.prog)} {H : Heap} {u v : Value} {x y : NodeD} (h1 : nodeOk H u = some x) (h2 : nodeOk H v = some y) : callOf (sameNC :: cs) (.fn 45 [u, v]) H = some (.ret (.bool (sameN x y)), H) :=
  callOf_hit rfl (by simp [sameNC, Contract.plain, h1, h2])
end Go.Proofs.Ytpopkajkekceiaa

namespace Go.Proofs.Ytpopkajkekceiaa
open Go Go.Abs
set_option maxRecDepth 100000
set_option linter.unusedSimpArgs false
set_option linter.unusedVariables false

/-! ### slices.EqualFunc on nodes (44) -/
def pSQ : List Nat := [1, 1, 0, 1, 0, 0]

theorem sq_exit {call : CallF} {lf : Nat} {env : Env} {H : Heap} {i n : Nat} (e16 : env.val 16 = .int .i64 n) (e17 : env.val 17 = .int .i64 i) (hi : n ≤ i) :
    ∃ env', evCode Try.prog call lf 32 none (cAt Try.f44 pSQ) env [] H = some (.exit 0, env', [], H) := by
  have c1 : ¬ (i : Int) < (n : Int) := by omega
  generalize hr : evCode Try.prog call lf 32 none (cAt Try.f44 pSQ) env [] H = out
  simp [pSQ, Try.f44, e16, e17, c1, hi] at hr
  subst hr
  exact ⟨_, rfl⟩

theorem store40 {H : Heap} {b : Nat} {x y z s : Value} {op n : Int} (h : H.get b = some (.cells true 3 [x, y, z])) (hs : oneC s = true) : storeA Try.prog 40 H b 0 (.agg #[.int .i64 op, .int .i64 n, s]) = some (H.set b (.cells true 3 [.int .i64 op, .int .i64 n, s])) := by
  simp [storeA, h, hs, putL]
theorem load40 {H : Heap} {b : Nat} {s : Value} {op n : Int} (h : H.get b = some (.cells true 3 [.int .i64 op, .int .i64 n, s])) : loadA Try.prog 40 H b 0 = some (.agg #[.int .i64 op, .int .i64 n, s]) := by
  simp [loadA, h]

/-- A block of its own with a node in it. -/
noncomputable def nodeIn (H : Heap) (op n : Int) (s : Value) : Heap := (H.push (.cells true 3 [.int .i64 0, .int .i64 0, .slice none 0 0])).set H.next (.cells true 3 [.int .i64 op, .int .i64 n, s])
theorem nodeIn_next (H : Heap) (op n : Int) (s : Value) : (nodeIn H op n s).next = H.next + 1 := rfl
theorem nodeIn_kept {H : Heap} (hw : H.Wf) (op n : Int) (s : Value) : Kept H (nodeIn H op n s) none := ((Kept.refl hw none).push _).set (Nat.le_refl _) (by simp) _
theorem nodeIn_self (H : Heap) (op n : Int) (s : Value) : (nodeIn H op n s).get H.next = some (.cells true 3 [.int .i64 op, .int .i64 n, s]) := get_set_self _ _ _

theorem sq_step {call : CallF} {lf : Nat} {env : Env} {H : Heap} {u v su sv : Value} {cu cv : List (List Value)} {i n : Nat} {x y : NodeD} (hw : H.Wf) (hu : rdS H 3 u = some cu) (hv : rdS H 3 v = some cv)
    (hx : cu[i]? = some [.int .i64 x.op, .int .i64 x.n, su]) (hy : cv[i]? = some [.int .i64 y.op, .int .i64 y.n, sv]) (ox : oneC su = true) (oy : oneC sv = true) (hn : n < 1099511627776) (hi : i < n)
    (e1 : env.val 1 = v) (e2 : env.val 2 = .func (.func 45) #[] #[]) (e15 : env.val 15 = u) (e16 : env.val 16 = .int .i64 n) (e17 : env.val 17 = .int .i64 i) (b : Bool)
    (hcall : call (.fn 45 [.agg #[.int .i64 x.op, .int .i64 x.n, su], .agg #[.int .i64 y.op, .int .i64 y.n, sv]]) (nodeIn (nodeIn H x.op x.n su) y.op y.n sv) = some (.ret (.bool b), nodeIn (nodeIn H x.op x.n su) y.op y.n sv)) :
    (b = false → ∃ env', evCode Try.prog call lf 32 none (cAt Try.f44 pSQ) env [] H = some (.ret, env', [], nodeIn (nodeIn H x.op x.n su) y.op y.n sv) ∧ env'.val 6 = .bool false) ∧
    (b = true → ∃ env', evCode Try.prog call lf 32 none (cAt Try.f44 pSQ) env [] H = some (.normal, env', [], nodeIn (nodeIn H x.op x.n su) y.op y.n sv) ∧ env'.val 1 = v ∧ env'.val 2 = .func (.func 45) #[] #[] ∧ env'.val 15 = u ∧ env'.val 16 = .int .i64 n ∧ env'.val 17 = .int .i64 ((i + 1 : Nat) : Int)) := by
  have c1 : (i : Int) < (n : Int) := by omega
  have w1 : IntKind.i64.wrap ((i : Int) + 1) = (i : Int) + 1 := wrapI (by omega) (by omega)
  have lu := (List.getElem?_eq_some_iff.1 hx).1
  have lv := (List.getElem?_eq_some_iff.1 hy).1
  have ix := rdS_index hu Try.underlying22 info40 size40 (n := (i : Int)) (by omega) (by omega)
  have iy := rdS_index hv Try.underlying22 info40 size40 (n := (i : Int)) (by omega) (by omega)
  simp only [Int.toNat_natCast] at ix iy
  have k1 := nodeIn_kept hw x.op x.n su
  have k2 := nodeIn_kept k1.wf y.op y.n sv
  have lx := rdS_loadA hu hx (t := 40) info40 size40 Try.underlying40 rfl
  have ly := rdS_loadA (rdS_ext (k1.ext hw) hv) hy (t := 40) info40 size40 Try.underlying40 rfl
  have s1 := store40 (H := H.push (.cells true 3 [.int .i64 0, .int .i64 0, .slice none 0 0])) (b := H.next) (op := x.op) (n := x.n) (get_push_self _ _) ox
  have s2 := store40 (H := (nodeIn H x.op x.n su).push (.cells true 3 [.int .i64 0, .int .i64 0, .slice none 0 0])) (b := (nodeIn H x.op x.n su).next) (op := y.op) (n := y.n) (get_push_self _ _) oy
  have r1 := load40 (k2.of_get k1.wf (nodeIn_self H x.op x.n su) (by simp))
  have r2 := load40 (nodeIn_self (nodeIn H x.op x.n su) y.op y.n sv)
  rw [show (H.push (.cells true 3 [.int .i64 0, .int .i64 0, .slice none 0 0])).set H.next (.cells true 3 [.int .i64 x.op, .int .i64 x.n, su]) = nodeIn H x.op x.n su from rfl] at s1
  rw [show ((nodeIn H x.op x.n su).push (.cells true 3 [.int .i64 0, .int .i64 0, .slice none 0 0])).set (nodeIn H x.op x.n su).next (.cells true 3 [.int .i64 y.op, .int .i64 y.n, sv]) = nodeIn (nodeIn H x.op x.n su) y.op y.n sv from rfl] at s2
  generalize nodeIn (nodeIn H x.op x.n su) y.op y.n sv = H2 at *
  have hnx := nodeIn_next H x.op x.n su
  generalize nodeIn H x.op x.n su = H1 at *
  rw [hnx] at s2 r2
  generalize hr : evCode Try.prog call lf 32 none (cAt Try.f44 pSQ) env [] H = out
  cases b with
  | false =>
    simp [pSQ, Try.f44, e1, e2, e15, e16, e17, c1, hi, ix, iy, lx, ly, s1, s2, r1, r2, callA, hcall, hnx] at hr
    subst hr
    exact ⟨fun _ => ⟨_, rfl, by simp⟩, fun h => by cases h⟩
  | true =>
    simp [pSQ, Try.f44, e1, e2, e15, e16, e17, c1, hi, ix, iy, lx, ly, s1, s2, r1, r2, callA, hcall, hnx, w1] at hr
    subst hr
    exact ⟨(fun h => by cases h), fun _ => ⟨_, rfl, by simp [e1, e2, e15, e16]⟩⟩

def sameNs : List NodeD → List NodeD → Bool
  | [], [] => true
  | x :: xs, y :: ys => sameN x y && sameNs xs ys
  | _, _ => false
theorem sameNs_len : ∀ {xs ys : List NodeD}, sameNs xs ys = true → xs.length = ys.length
  | [], [], _ => rfl
  | x :: xs, y :: ys, h => by simp only [sameNs, Bool.and_eq_true] at h; simp [sameNs_len h.2]
  | [], _ :: _, h => by cases h
  | _ :: _, [], h => by cases h

/-- The nodes of a slice: read. -/
def nodesAt (H : Heap) (v : Value) (cs : List (List Value)) (xs : List NodeD) : Prop := rdS H 3 v = some cs ∧ cs.length = xs.length ∧
  ∀ (i : Nat) x, xs[i]? = some x → ∃ s, cs[i]? = some [.int .i64 x.op, .int .i64 x.n, s] ∧ rdInts H .i64 s = some x.l
theorem nodesAt.ext {H H' : Heap} {v : Value} {cs : List (List Value)} {xs : List NodeD} (h : nodesAt H v cs xs) (hx : Ext H H') : nodesAt H' v cs xs :=
  ⟨rdS_ext hx h.1, h.2.1, fun i x hi => let ⟨s, a, b⟩ := h.2.2 i x hi; ⟨s, a, rdInts_ext hx b⟩⟩

theorem sq_loop {lf : Nat} {H0 : Heap} {u v : Value} {cu cv : List (List Value)} {xs ys : List NodeD} (hu : nodesAt H0 u cu xs) (hv : nodesAt H0 v cv ys) (hab : xs.length = ys.length) (hn : xs.length < 1099511627776)
    (fx : ∀ x ∈ xs, x.l.length < 1099511627776) (fy : ∀ x ∈ ys, x.l.length < 1099511627776) : ∀ (d i m : Nat) (env : Env) (H : Heap), d < m → xs.length = i + d → H.Wf → Ext H0 H →
    env.val 1 = v → env.val 2 = .func (.func 45) #[] #[] → env.val 15 = u → env.val 16 = .int .i64 xs.length → env.val 17 = .int .i64 i →
    ∃ H', Ext H0 H' ∧ H'.Wf ∧ (sameNs (xs.drop i) (ys.drop i) = true → ∃ env', evLoop Try.prog (callOf [sameNC]) lf 32 none (cAt Try.f44 pSQ) m env [] H = some (.exit 0, env', [], H')) ∧
    (sameNs (xs.drop i) (ys.drop i) = false → ∃ env', evLoop Try.prog (callOf [sameNC]) lf 32 none (cAt Try.f44 pSQ) m env [] H = some (.ret, env', [], H') ∧ env'.val 6 = .bool false)
  | d, i, 0, env, H, hm, _, _, _, _, _, _, _, _ => by omega
  | 0, i, m + 1, env, H, hm, hl, hw, hx, e1, e2, e15, e16, e17 => by
    obtain ⟨env', he⟩ := sq_exit (call := callOf [sameNC]) (lf := lf) (H := H) e16 e17 (by omega)
    simp only [evLoop_succ, he]
    rw [List.drop_eq_nil_of_le (by omega), List.drop_eq_nil_of_le (by omega)]
    exact ⟨H, hx, hw, fun _ => ⟨_, rfl⟩, fun h => by cases h⟩
  | d + 1, i, m + 1, env, H, hm, hl, hw, hx, e1, e2, e15, e16, e17 => by
    have hxi := List.getElem?_eq_getElem (l := xs) (i := i) (by omega)
    have hyi := List.getElem?_eq_getElem (l := ys) (i := i) (by omega)
    obtain ⟨su, a1, a2⟩ := hu.2.2 i _ hxi
    obtain ⟨sv, b1, b2⟩ := hv.2.2 i _ hyi
    have k1 := nodeIn_kept hw (xs[i]'(by omega)).op (xs[i]'(by omega)).n su
    have k2 := nodeIn_kept k1.wf (ys[i]'(by omega)).op (ys[i]'(by omega)).n sv
    have x2 := (hx.trans (k1.ext hw)).trans (k2.ext k1.wf)
    have hc := sameN_hit (cs := []) (nodeOk_of (x := xs[i]'(by omega)) (rdInts_ext x2 a2) (fx _ (List.getElem_mem _))) (nodeOk_of (x := ys[i]'(by omega)) (rdInts_ext x2 b2) (fy _ (List.getElem_mem _)))
    obtain ⟨g1, g2⟩ := sq_step (call := callOf [sameNC]) (lf := lf) hw (rdS_ext hx hu.1) (rdS_ext hx hv.1) a1 b1 (ints_one a2).2 (ints_one b2).2 hn (by omega) e1 e2 e15 e16 e17 _ hc
    rw [List.drop_eq_getElem_cons (l := xs) (i := i) (by omega), List.drop_eq_getElem_cons (l := ys) (i := i) (by omega)]
    simp only [sameNs]
    cases hs : sameN (xs[i]'(by omega)) (ys[i]'(by omega)) with
    | true =>
      obtain ⟨env', he, f1, f2, f15, f16, f17⟩ := g2 hs
      obtain ⟨H', r0, rw', r1, r2⟩ := sq_loop (lf := lf) hu hv hab hn fx fy d (i + 1) m env' _ (by omega) (by omega) k2.wf x2 f1 f2 f15 f16 f17
      simp only [evLoop_succ, he, Bool.true_and]
      exact ⟨H', r0, rw', r1, r2⟩
    | false =>
      obtain ⟨env', he, k⟩ := g1 hs
      simp only [evLoop_succ, he, Bool.false_and]
      exact ⟨_, x2, k2.wf, (fun h => by cases h), fun _ => ⟨_, rfl, k⟩⟩

/-- EqualFunc on nodes, with Same's $1. -/
theorem equalF_run {H : Heap} {u v : Value} {cu cv : List (List Value)} {xs ys : List NodeD} (hw : H.Wf) (hu : nodesAt H u cu xs) (hv : nodesAt H v cv ys) (hn : xs.length < 1099511627776)
    (fx : ∀ x ∈ xs, x.l.length < 1099511627776) (fy : ∀ x ∈ ys, x.l.length < 1099511627776) :
    ∃ H', Ext H H' ∧ evFn Try.prog (callOf [sameNC]) (xs.length + 1) 44 [u, v, .func (.func 45) #[] #[]] H = some (.ret (.bool (sameNs xs ys)), H') := by
  have lu := len_of (H' := H) (P := Try.prog) (t := 22) hu.1 Try.underlying22
  have lv := len_of (H' := H) (P := Try.prog) (t := 22) hv.1 Try.underlying22
  rw [hu.2.1] at lu
  rw [hv.2.1] at lv
  generalize hr : evFn Try.prog (callOf [sameNC]) (xs.length + 1) 44 [u, v, .func (.func 45) #[] #[]] H = out
  by_cases hab : xs.length = ys.length
  · have hb : ((xs.length : Int) != (ys.length : Int)) = false := by simp [hab]
    simp [Try.f44, lu, lv, hb] at hr
    generalize hL : evLoop _ _ _ _ _ _ _ _ _ _ = L at hr
    have aux : ∀ env, evLoop Try.prog (callOf [sameNC]) (xs.length + 1) 32 none (cAt Try.f44 pSQ) (xs.length + 1) env [] H = L → env.val 1 = v → env.val 2 = .func (.func 45) #[] #[] → env.val 15 = u → env.val 16 = .int .i64 xs.length → env.val 17 = .int .i64 (0 : Nat) →
        ∃ H', Ext H H' ∧ (sameNs xs ys = true → ∃ env', L = some (.exit 0, env', [], H')) ∧ (sameNs xs ys = false → ∃ env', L = some (.ret, env', [], H') ∧ env'.val 6 = .bool false) := by
      intro env hL e1 e2 e15 e16 e17
      obtain ⟨H', h1, _, h2, h3⟩ := sq_loop (lf := xs.length + 1) hu hv hab hn fx fy xs.length 0 (xs.length + 1) env H (Nat.lt_succ_self _) (by omega) hw (fun _ _ h => h) e1 e2 e15 e16 e17
      rw [hL] at h2 h3
      exact ⟨H', h1, by simpa using h2, by simpa using h3⟩
    obtain ⟨H', h1, g1, g2⟩ := aux _ hL (by simp) (by simp) (by simp) (by simp) (by simp)
    refine ⟨H', h1, ?_⟩
    cases hs : sameNs xs ys with
    | true =>
      obtain ⟨env', rfl⟩ := g1 hs
      simpa using hr.symm
    | false =>
      obtain ⟨env', rfl, k⟩ := g2 hs
      simpa [k] using hr.symm
  · have hb : ((xs.length : Int) != (ys.length : Int)) = true := by simp; omega
    simp [Try.f44, lu, lv, hb] at hr
    subst hr
    refine ⟨H, fun _ _ h => h, ?_⟩
    cases hs : sameNs xs ys with
    | true => exact absurd (sameNs_len hs) hab
    | false => rfl
end Go.Proofs.Ytpopkajkekceiaa

namespace Go.Proofs.Ytpopkajkekceiaa
open Go Go.Abs
set_option maxRecDepth 100000
set_option linter.unusedSimpArgs false
set_option linter.unusedVariables false

/-! ### Same (27) -/
def sameFL (f g : FunD) : Bool := decide (f.params = g.params) && sameNs f.nodes g.nodes

theorem with_44 {lf : Nat} {args : List Value} {H : Heap} : evWith Try.prog lf [sameNC] 1 (.fn 44 args) H = evFn Try.prog (callOf [sameNC]) lf 44 args H := by
  have : callOf [sameNC] (.fn 44 args) H = none := by
    rw [callOf_miss (by decide)]
    rfl
  simp only [evWith, this]
  rfl

theorem rdFun_nodes {H : Heap} {v : Value} {f : FunD} (h : rdFun H v = some f) : ∃ s cs, v = .agg #[.int .i64 f.params, s] ∧ oneC s = true ∧ nodesAt H s cs f.nodes := by
  obtain ⟨s, xs, rfl, _, hs, hlen, hx⟩ := rdFun_inv h
  exact ⟨s, xs, rfl, (rdS_one hs).2.1, hs, hlen, fun i x hi => let ⟨s', a, _, b⟩ := hx i x hi; ⟨s', a, b⟩⟩

theorem two_cells {H : Heap} {p s q s' : Value} :
    ((H.push (.cells true 2 [p, s])).push (.cells true 2 [q, s'])).get H.next = some (.cells true 2 [p, s]) ∧ ((H.push (.cells true 2 [p, s])).push (.cells true 2 [q, s'])).get (H.next + 1) = some (.cells true 2 [q, s']) :=
  ⟨by rw [get_push_ne (by simp), get_push_self], get_push_self _ _⟩

/-- Same. -/
noncomputable def sameFC : Contract Try.prog := Contract.plain 27
  (fun args H => match args with
    | [v, w] => match rdFit H v, rdFit H w with
      | some f, some g => if f.nodes.length < 1099511627776 then some (.ret (.bool (sameFL f g))) else none
      | _, _ => none
    | _ => none) (by
    intro args H res hw hr
    split at hr
    · rename_i v w
      split at hr
      · rename_i f g h1 h2
        split at hr
        · rename_i hn
          simp only [Option.some.injEq] at hr
          subst hr
          obtain ⟨hf, ff⟩ := rdFit_inv h1
          obtain ⟨hg, fg⟩ := rdFit_inv h2
          obtain ⟨s, cs, rfl, os, ns⟩ := rdFun_nodes hf
          obtain ⟨s', cs', rfl, os', ns'⟩ := rdFun_nodes hg
          have x1 := Ext.push hw (.cells true 2 [.int .i64 f.params, s])
          have w1 := hw.push (.cells true 2 [.int .i64 f.params, s])
          have x2 := x1.trans (Ext.push w1 (.cells true 2 [.int .i64 g.params, s']))
          have w2 := w1.push (.cells true 2 [.int .i64 g.params, s'])
          obtain ⟨g1, g2⟩ := two_cells (H := H) (p := .int .i64 f.params) (s := s) (q := .int .i64 g.params) (s' := s')
          have hnx : ((H.push (.cells true 2 [.int .i64 f.params, s])).push (.cells true 2 [.int .i64 g.params, s'])).next = H.next + 2 := rfl
          obtain ⟨H', x3, hc⟩ := equalF_run w2 (ns.ext x2) (ns'.ext x2) hn ff fg
          rw [← with_44] at hc
          generalize hH : (H.push (.cells true 2 [.int .i64 f.params, s])).push (.cells true 2 [.int .i64 g.params, s']) = H2 at *
          have a0 : loadA Try.prog 3 H2 H.next 0 = some (.int .i64 f.params) := by simp [loadA, g1]
          have a1 : loadA Try.prog 22 H2 H.next 1 = some s := by simp [loadA, g1]
          have b0 : loadA Try.prog 3 H2 (H.next + 1) 0 = some (.int .i64 g.params) := by simp [loadA, g2]
          have b1 : loadA Try.prog 22 H2 (H.next + 1) 1 = some s' := by simp [loadA, g2]
          have hcall := evWith_ok (P := Try.prog) (f.nodes.length + 1) [sameNC] 1
          generalize evWith Try.prog (f.nodes.length + 1) [sameNC] 1 = call at hc hcall
          unfold sameFL
          by_cases c1 : f.params = g.params
          · have d1 : (f.params == g.params) = true := by simp [c1]
            refine ⟨rfl, call, H', hcall, 0, ?_, x2.trans x3⟩
            generalize hr : evFn Try.prog call 0 27 [.agg #[.int .i64 f.params, s], .agg #[.int .i64 g.params, s']] H = out
            simp [Try.f27, os, os', hH, a0, a1, b0, b1, d1, callA, hc, undef, -beq_iff_eq] at hr
            subst hr
            simp [c1]
          · have d1 : (f.params == g.params) = false := by simp [c1]
            refine ⟨rfl, call, H2, hcall, 0, ?_, x2⟩
            generalize hr : evFn Try.prog call 0 27 [.agg #[.int .i64 f.params, s], .agg #[.int .i64 g.params, s']] H = out
            simp [Try.f27, os, os', hH, a0, a1, b0, b1, d1, callA, undef, -beq_iff_eq] at hr
            subst hr
            simp [c1]
        · cases hr
      · cases hr
    · cases hr)
theorem sameF_hit {cs : List (Contract Try.prog)} {H : Heap} {v w : Value} {f g : FunD} (h1 : rdFit H v = some f) (h2 : rdFit H w = some g) (hn : f.nodes.length < 1099511627776) : callOf (sameFC :: cs) (.fn 27 [v, w]) H = some (.ret (.bool (sameFL f g)), H) :=
  callOf_hit rfl (by simp [sameFC, Contract.plain, h1, h2, hn])
end Go.Proofs.Ytpopkajkekceiaa

namespace Go.Proofs.Ytpopkajkekceiaa
open Go Go.Abs
set_option maxRecDepth 100000
set_option linter.unusedSimpArgs false
set_option linter.unusedVariables false

/-! ### The reference's Same (26) -/
def pR : List Nat := [1, 1, 0, 1, 0, 0]

theorem rs_exit {call : CallF} {lf : Nat} {env : Env} {H : Heap} {b2 i : Nat} {p s : Value} {cs : List (List Value)} (e2 : env.val 2 = .pointer (some ⟨b2, 0, none⟩)) (g2 : H.get b2 = some (.cells true 2 [p, s])) (hs : rdS H 3 s = some cs) (e5 : env.val 5 = .int .i64 i) (hi : cs.length ≤ i) :
    ∃ env', evCode Try.prog call lf 79 none (cAt Try.f26 pR) env [] H = some (.exit 0, env', [], H) := by
  have c1 : ¬ (i : Int) < (cs.length : Int) := by omega
  have hb := len_of (H' := H) (P := Try.prog) (t := 22) hs Try.underlying22
  have ld1 : loadA Try.prog 22 H b2 1 = some s := by simp [loadA, g2]
  generalize hr : evCode Try.prog call lf 79 none (cAt Try.f26 pR) env [] H = out
  simp [pR, Try.f26, e2, e5, ld1, hb, c1] at hr
  subst hr
  exact ⟨_, rfl⟩

theorem rs_head {call : CallF} {lf : Nat} {env : Env} {H : Heap} {b2 i : Nat} {p s : Value} {cs : List (List Value)} (e2 : env.val 2 = .pointer (some ⟨b2, 0, none⟩)) (g2 : H.get b2 = some (.cells true 2 [p, s])) (hs : rdS H 3 s = some cs) (e5 : env.val 5 = .int .i64 i) (hi : i < cs.length) :
    ∃ env', evCode Try.prog call lf 79 none (cAt Try.f26 (pR ++ [0])) env [] H = some (.normal, env', [], H) ∧ env'.val 2 = env.val 2 ∧ env'.val 3 = env.val 3 ∧ env'.val 5 = env.val 5 := by
  have c1 : (i : Int) < (cs.length : Int) := by omega
  have hb := len_of (H' := H) (P := Try.prog) (t := 22) hs Try.underlying22
  have ld1 : loadA Try.prog 22 H b2 1 = some s := by simp [loadA, g2]
  generalize hr : evCode Try.prog call lf 79 none (cAt Try.f26 (pR ++ [0])) env [] H = out
  simp [pR, Try.f26, e2, e5, ld1, hb, c1] at hr
  subst hr
  exact ⟨_, rfl, by simp [e2, e5]⟩

/-- Two nodes in blocks of their own. -/
noncomputable def twoN (H : Heap) (x y : NodeD) (sx sy : Value) : Heap :=
  (((H.push (.cells true 3 [.int .i64 0, .int .i64 0, .slice none 0 0])).push (.cells true 3 [.int .i64 0, .int .i64 0, .slice none 0 0])).set H.next (.cells true 3 [.int .i64 x.op, .int .i64 x.n, sx])).set (H.next + 1) (.cells true 3 [.int .i64 y.op, .int .i64 y.n, sy])

theorem twoN_spec {H : Heap} (hw : H.Wf) (x y : NodeD) (sx sy : Value) : Kept H (twoN H x y sx sy) none ∧ (twoN H x y sx sy).get H.next = some (.cells true 3 [.int .i64 x.op, .int .i64 x.n, sx]) ∧ (twoN H x y sx sy).get (H.next + 1) = some (.cells true 3 [.int .i64 y.op, .int .i64 y.n, sy]) := by
  refine ⟨((((Kept.refl hw none).push _).push _).set (Nat.le_refl _) (by simp; omega) _).set (by omega) (by simp) _, ?_, get_set_self _ _ _⟩
  unfold twoN
  rw [get_set_ne (by omega), get_set_self]

theorem rs_R6 {call : CallF} {lf : Nat} {env : Env} {H : Heap} {b2 b3 i : Nat} {p s p' s' sx sy : Value} {cs cs' : List (List Value)} {x y : NodeD} (hw : H.Wf)
    (e2 : env.val 2 = .pointer (some ⟨b2, 0, none⟩)) (g2 : H.get b2 = some (.cells true 2 [p, s])) (hs : rdS H 3 s = some cs) (e3 : env.val 3 = .pointer (some ⟨b3, 0, none⟩)) (g3 : H.get b3 = some (.cells true 2 [p', s'])) (hs' : rdS H 3 s' = some cs')
    (e5 : env.val 5 = .int .i64 i) (hx : cs[i]? = some [.int .i64 x.op, .int .i64 x.n, sx]) (hy : cs'[i]? = some [.int .i64 y.op, .int .i64 y.n, sy]) (ox : oneC sx = true ∧ eq0 sx sx = true) (oy : oneC sy = true ∧ eq0 sy sy = true) :
    ∃ env', evCode Try.prog call lf 79 none (cAt Try.f26 (pR ++ [1, 0, 0, 0])) env [] H = some (.normal, env', [], twoN H x y sx sy) ∧ env'.val 2 = env.val 2 ∧ env'.val 3 = env.val 3 ∧ env'.val 5 = env.val 5 ∧
      env'.val 6 = .pointer (some ⟨H.next, 0, none⟩) ∧ env'.val 7 = .pointer (some ⟨H.next + 1, 0, none⟩) := by
  have lu := (List.getElem?_eq_some_iff.1 hx).1
  have lv := (List.getElem?_eq_some_iff.1 hy).1
  have ix := rdS_index hs Try.underlying22 info40 size40 (n := (i : Int)) (by omega) (by omega)
  have iy := rdS_index hs' Try.underlying22 info40 size40 (n := (i : Int)) (by omega) (by omega)
  simp only [Int.toNat_natCast] at ix iy
  have k1 := ((Kept.refl hw none).push (.cells true 3 [.int .i64 0, .int .i64 0, .slice none 0 0])).push (.cells true 3 [.int .i64 0, .int .i64 0, .slice none 0 0])
  have k2 := k1.set (Nat.le_refl _) (by simp; omega) (.cells true 3 [.int .i64 x.op, .int .i64 x.n, sx])
  have z0 : ((H.push (.cells true 3 [.int .i64 0, .int .i64 0, .slice none 0 0])).push (.cells true 3 [.int .i64 0, .int .i64 0, .slice none 0 0])).get H.next = some (.cells true 3 [.int .i64 0, .int .i64 0, .slice none 0 0]) := by
    rw [get_push_ne (by simp), get_push_self]
  have z1 : ((H.push (.cells true 3 [.int .i64 0, .int .i64 0, .slice none 0 0])).push (.cells true 3 [.int .i64 0, .int .i64 0, .slice none 0 0])).get (H.next + 1) = some (.cells true 3 [.int .i64 0, .int .i64 0, .slice none 0 0]) := get_push_self _ _
  have z2 : (((H.push (.cells true 3 [.int .i64 0, .int .i64 0, .slice none 0 0])).push (.cells true 3 [.int .i64 0, .int .i64 0, .slice none 0 0])).set H.next (.cells true 3 [.int .i64 x.op, .int .i64 x.n, sx])).get (H.next + 1) = some (.cells true 3 [.int .i64 0, .int .i64 0, .slice none 0 0]) := by
    rw [get_set_ne (by omega)]; exact z1
  have s1 := store40 (op := x.op) (n := x.n) z0 ox.1
  have s2 := store40 (op := y.op) (n := y.n) z2 oy.1
  have h2 : ((((H.push (.cells true 3 [.int .i64 0, .int .i64 0, .slice none 0 0])).push (.cells true 3 [.int .i64 0, .int .i64 0, .slice none 0 0])).set H.next (.cells true 3 [.int .i64 x.op, .int .i64 x.n, sx])).set (H.next + 1) (.cells true 3 [.int .i64 y.op, .int .i64 y.n, sy])) = twoN H x y sx sy := rfl
  rw [h2] at s2
  have la : ∀ K, Kept H K none → loadA Try.prog 22 K b2 1 = some s ∧ loadA Try.prog 22 K b3 1 = some s' ∧ loadA Try.prog 40 K (blk s) (offs s + i * 3) = some (.agg #[.int .i64 x.op, .int .i64 x.n, sx]) ∧ loadA Try.prog 40 K (blk s') (offs s' + i * 3) = some (.agg #[.int .i64 y.op, .int .i64 y.n, sy]) := by
    intro K hk
    have q2 := hk.of_get hw g2 (by simp)
    have q3 := hk.of_get hw g3 (by simp)
    exact ⟨by simp [loadA, q2], by simp [loadA, q3], rdS_loadA (rdS_ext (hk.ext hw) hs) hx (t := 40) info40 size40 Try.underlying40 rfl, rdS_loadA (rdS_ext (hk.ext hw) hs') hy (t := 40) info40 size40 Try.underlying40 rfl⟩
  obtain ⟨l1, l2, l3, l4⟩ := la _ k1
  obtain ⟨m1, m2, m3, m4⟩ := la _ k2
  have es : eq0 s' s' = true := (rdS_one hs').2.2.2
  have ev : eqV s' s' = true := (rdS_one hs').2.2.1
  generalize hr : evCode Try.prog call lf 79 none (cAt Try.f26 (pR ++ [1, 0, 0, 0])) env [] H = out
  simp [pR, Try.f26] at hr
  rw [evDraw_held (tab := [(6, [13]), (9, [13])]) (atab := [(0, (40, [12])), (1, (40, [12]))]) (al := [(10, (6, 40)), (11, (7, 40))])] at hr
  · simp [e2, e3, e5, ix, iy, l1, l2, l3, l4, m1, m2, m3, m4, s1, s2, z0, z1, ox.1, ox.2, oy.1, oy.2, es, ev] at hr
    subst hr
    exact ⟨_, rfl, by simp [e2, e3, e5]⟩
  · kernel_rfl
  · kernel_rfl
  · kernel_rfl
  · kernel_rfl
  · kernel_rfl
end Go.Proofs.Ytpopkajkekceiaa

namespace Go.Proofs.Ytpopkajkekceiaa
open Go Go.Abs
set_option maxRecDepth 100000
set_option linter.unusedSimpArgs false
set_option linter.unusedVariables false

def pTr : List Nat := [1, 1, 0, 1, 0, 0, 1, 0, 0, 1, 1, 1, 0, 0]

def keepR (e e' : Env) : Prop := e'.val 2 = e.val 2 ∧ e'.val 3 = e.val 3 ∧ e'.val 5 = e.val 5 ∧ e'.val 6 = e.val 6 ∧ e'.val 7 = e.val 7
theorem keepR.trans {a b c : Env} (h : keepR a b) (k : keepR b c) : keepR a c := ⟨k.1.trans h.1, k.2.1.trans h.2.1, k.2.2.1.trans h.2.2.1, k.2.2.2.1.trans h.2.2.2.1, k.2.2.2.2.trans h.2.2.2.2⟩

theorem rt_exit {call : CallF} {lf : Nat} {env : Env} {H : Heap} {b6 k : Nat} {o n s : Value} {l : List Int} (e6 : env.val 6 = .pointer (some ⟨b6, 0, none⟩)) (g6 : H.get b6 = some (.cells true 3 [o, n, s])) (hs : rdInts H .i64 s = some l) (e8 : env.val 8 = .int .i64 k) (hk : l.length ≤ k) :
    ∃ env', evCode Try.prog call lf 79 none (cAt Try.f26 pTr) env [] H = some (.exit 2, env', [], H) ∧ keepR env env' := by
  have c1 : ¬ (k : Int) < (l.length : Int) := by omega
  have hb := len_of (H' := H) (P := Try.prog) (t := 38) (rdInts_rd hs) Try.underlying38
  simp only [List.length_map] at hb
  have ld : loadA Try.prog 38 H b6 2 = some s := by simp [loadA, g6]
  generalize hr : evCode Try.prog call lf 79 none (cAt Try.f26 pTr) env [] H = out
  simp [pTr, Try.f26, e6, e8, ld, hb, c1] at hr
  subst hr
  exact ⟨_, rfl, by simp [keepR, e6]⟩

theorem rt_step {call : CallF} {lf : Nat} {env : Env} {H : Heap} {b6 b7 k : Nat} {o n s o' n' s' : Value} {l l' : List Int} {x y : Int} (e6 : env.val 6 = .pointer (some ⟨b6, 0, none⟩)) (g6 : H.get b6 = some (.cells true 3 [o, n, s])) (hs : rdInts H .i64 s = some l)
    (e7 : env.val 7 = .pointer (some ⟨b7, 0, none⟩)) (g7 : H.get b7 = some (.cells true 3 [o', n', s'])) (hs' : rdInts H .i64 s' = some l') (e8 : env.val 8 = .int .i64 k) (hx : l[k]? = some x) (hy : l'[k]? = some y) (hl : l.length < 1099511627776) :
    (x ≠ y → ∃ env', evCode Try.prog call lf 79 none (cAt Try.f26 pTr) env [] H = some (.ret, env', [], H) ∧ env'.val 4 = .bool false) ∧
    (x = y → ∃ env', evCode Try.prog call lf 79 none (cAt Try.f26 pTr) env [] H = some (.normal, env', [], H) ∧ keepR env env' ∧ env'.val 8 = .int .i64 ((k + 1 : Nat) : Int)) := by
  have lu := (List.getElem?_eq_some_iff.1 hx).1
  have c1 : (k : Int) < (l.length : Int) := by omega
  have w1 : IntKind.i64.wrap ((k : Int) + 1) = (k : Int) + 1 := wrapI (by omega) (by omega)
  have hb := len_of (H' := H) (P := Try.prog) (t := 38) (rdInts_rd hs) Try.underlying38
  simp only [List.length_map] at hb
  have ld : loadA Try.prog 38 H b6 2 = some s := by simp [loadA, g6]
  have ld' : loadA Try.prog 38 H b7 2 = some s' := by simp [loadA, g7]
  obtain ⟨ix, lx⟩ := rdInts_at hs hx Try.underlying38 info3 rfl Try.underlying3 rfl
  obtain ⟨iy, ly⟩ := rdInts_at hs' hy Try.underlying38 info3 rfl Try.underlying3 rfl
  generalize hr : evCode Try.prog call lf 79 none (cAt Try.f26 pTr) env [] H = out
  by_cases hxy : x = y
  · have d : (x != y) = false := by simp [hxy]
    simp [pTr, Try.f26, e6, e8, ld, hb, c1] at hr
    rw [evDraw_tab (tab := [])] at hr
    · simp [e6, e7, e8, ld, ld', hb, c1, ix, iy, lx, ly, d, w1] at hr
      subst hr
      exact ⟨fun h => absurd hxy h, fun _ => ⟨_, rfl, by simp [keepR, e6, e7], by simp⟩⟩
    · kernel_rfl
    · kernel_rfl
  · have d : (x != y) = true := by simp [hxy]
    simp [pTr, Try.f26, e6, e8, ld, hb, c1] at hr
    rw [evDraw_tab (tab := [])] at hr
    · simp [e6, e7, e8, ld, ld', hb, c1, ix, iy, lx, ly, d, w1] at hr
      subst hr
      exact ⟨fun _ => ⟨_, rfl, by simp⟩, fun h => absurd h hxy⟩
    · kernel_rfl
    · kernel_rfl

theorem rt_loop {call : CallF} {lf : Nat} {H : Heap} {b6 b7 : Nat} {o n s o' n' s' : Value} {l l' : List Int} (g6 : H.get b6 = some (.cells true 3 [o, n, s])) (hs : rdInts H .i64 s = some l) (g7 : H.get b7 = some (.cells true 3 [o', n', s'])) (hs' : rdInts H .i64 s' = some l')
    (hab : l.length = l'.length) (hl : l.length < 1099511627776) : ∀ (d k m : Nat) (env : Env), d < m → l.length = k + d → env.val 6 = .pointer (some ⟨b6, 0, none⟩) → env.val 7 = .pointer (some ⟨b7, 0, none⟩) → env.val 8 = .int .i64 k →
    (l.drop k = l'.drop k → ∃ env', evLoop Try.prog call lf 79 none (cAt Try.f26 pTr) m env [] H = some (.exit 2, env', [], H) ∧ keepR env env') ∧
    (l.drop k ≠ l'.drop k → ∃ env', evLoop Try.prog call lf 79 none (cAt Try.f26 pTr) m env [] H = some (.ret, env', [], H) ∧ env'.val 4 = .bool false)
  | d, k, 0, env, hm, _, _, _, _ => by omega
  | 0, k, m + 1, env, hm, hd, e6, e7, e8 => by
    obtain ⟨env', he, kk⟩ := rt_exit (call := call) (lf := lf) e6 g6 hs e8 (by omega)
    simp only [evLoop_succ, he]
    refine ⟨fun _ => ⟨_, rfl, kk⟩, fun h => absurd ?_ h⟩
    rw [List.drop_eq_nil_of_le (by omega), List.drop_eq_nil_of_le (by omega)]
  | d + 1, k, m + 1, env, hm, hd, e6, e7, e8 => by
    have hx := List.getElem?_eq_getElem (l := l) (i := k) (by omega)
    have hy := List.getElem?_eq_getElem (l := l') (i := k) (by omega)
    obtain ⟨g1, g2⟩ := rt_step (call := call) (lf := lf) e6 g6 hs e7 g7 hs' e8 hx hy hl
    rw [List.drop_eq_getElem_cons (l := l) (i := k) (by omega), List.drop_eq_getElem_cons (l := l') (i := k) (by omega)]
    by_cases hxy : l[k]'(by omega) = l'[k]'(by omega)
    · obtain ⟨env', he, kk, k8⟩ := g2 hxy
      obtain ⟨r1, r2⟩ := rt_loop (call := call) (lf := lf) g6 hs g7 hs' hab hl d (k + 1) m env' (by omega) (by omega) (kk.2.2.2.1.trans e6) (kk.2.2.2.2.trans e7) k8
      simp only [evLoop_succ, he]
      rw [hxy]
      exact ⟨fun h => let ⟨e, a, b⟩ := r1 (List.cons.inj h).2; ⟨e, a, kk.trans b⟩, fun h => r2 (fun e => h (by rw [e]))⟩
    · obtain ⟨env', he, kk⟩ := g1 hxy
      simp only [evLoop_succ, he]
      exact ⟨fun h => absurd (List.cons.inj h).1 hxy, fun _ => ⟨_, rfl, kk⟩⟩

/-- The two nodes' parts: are they the same, and as many? -/
def sameN0 (x y : NodeD) : Bool := decide (x.op = y.op) && (decide (x.n = y.n) && decide (x.l.length = y.l.length))

theorem rs_R7 {call : CallF} {lf : Nat} {env : Env} {H : Heap} {b6 b7 : Nat} {sx sy : Value} {x y : NodeD} (e6 : env.val 6 = .pointer (some ⟨b6, 0, none⟩)) (g6 : H.get b6 = some (.cells true 3 [.int .i64 x.op, .int .i64 x.n, sx])) (hs : rdInts H .i64 sx = some x.l)
    (e7 : env.val 7 = .pointer (some ⟨b7, 0, none⟩)) (g7 : H.get b7 = some (.cells true 3 [.int .i64 y.op, .int .i64 y.n, sy])) (hs' : rdInts H .i64 sy = some y.l) :
    (sameN0 x y = true → ∃ env', evCode Try.prog call lf 79 none (cAt Try.f26 (pR ++ [1, 0, 0, 1, 0])) env [] H = some (.normal, env', [], H) ∧ keepR env env') ∧
    (sameN0 x y = false → ∃ env', evCode Try.prog call lf 79 none (cAt Try.f26 (pR ++ [1, 0, 0, 1, 0])) env [] H = some (.ret, env', [], H) ∧ env'.val 4 = .bool false) := by
  have a0 : loadA Try.prog 37 H b6 0 = some (.int .i64 x.op) := by simp [loadA, g6]
  have a1 : loadA Try.prog 2 H b6 1 = some (.int .i64 x.n) := by simp [loadA, g6]
  have a2 : loadA Try.prog 38 H b6 2 = some sx := by simp [loadA, g6]
  have b0 : loadA Try.prog 37 H b7 0 = some (.int .i64 y.op) := by simp [loadA, g7]
  have b1 : loadA Try.prog 2 H b7 1 = some (.int .i64 y.n) := by simp [loadA, g7]
  have b2 : loadA Try.prog 38 H b7 2 = some sy := by simp [loadA, g7]
  have hb := len_of (H' := H) (P := Try.prog) (t := 38) (rdInts_rd hs) Try.underlying38
  have hb' := len_of (H' := H) (P := Try.prog) (t := 38) (rdInts_rd hs') Try.underlying38
  simp only [List.length_map] at hb hb'
  unfold sameN0
  generalize hr : evCode Try.prog call lf 79 none (cAt Try.f26 (pR ++ [1, 0, 0, 1, 0])) env [] H = out
  by_cases c1 : x.op = y.op
  · have d1 : (x.op != y.op) = false := by simp [c1]
    by_cases c2 : x.n = y.n
    · have d2 : (x.n != y.n) = false := by simp [c2]
      by_cases c3 : x.l.length = y.l.length
      · have d3 : ((x.l.length : Int) != (y.l.length : Int)) = false := by simp [c3]
        simp [pR, Try.f26, e6, e7, a0, a1, a2, b0, b1, b2, hb, hb', d1, d2, d3, -bne_eq_false_iff_eq] at hr
        subst hr
        exact ⟨fun _ => ⟨_, rfl, by simp [keepR, e6, e7]⟩, fun h => by simp [c1, c2, c3] at h⟩
      · have d3 : ((x.l.length : Int) != (y.l.length : Int)) = true := by simp; omega
        simp [pR, Try.f26, e6, e7, a0, a1, a2, b0, b1, b2, hb, hb', d1, d2, d3, -bne_eq_false_iff_eq] at hr
        subst hr
        exact ⟨fun h => by simp [c3] at h, fun _ => ⟨_, rfl, by simp⟩⟩
    · have d2 : (x.n != y.n) = true := by simp [c2]
      simp [pR, Try.f26, e6, e7, a0, a1, a2, b0, b1, b2, hb, hb', d1, d2, undef, -bne_eq_false_iff_eq] at hr
      subst hr
      exact ⟨fun h => by simp [c2] at h, fun _ => ⟨_, rfl, by simp⟩⟩
  · have d1 : (x.op != y.op) = true := by simp [c1]
    simp [pR, Try.f26, e6, e7, a0, a1, a2, b0, b1, b2, hb, hb', d1, undef, -bne_eq_false_iff_eq] at hr
    subst hr
    exact ⟨fun h => by simp [c1] at h, fun _ => ⟨_, rfl, by simp⟩⟩
end Go.Proofs.Ytpopkajkekceiaa

namespace Go.Proofs.Ytpopkajkekceiaa
open Go Go.Abs
set_option maxRecDepth 100000
set_option linter.unusedSimpArgs false
set_option linter.unusedVariables false

theorem rs_R9 {call : CallF} {lf : Nat} {env : Env} {H : Heap} : ∃ env', evCode Try.prog call lf 79 none (cAt Try.f26 (pR ++ [1, 0, 0, 1, 1, 0])) env [] H = some (.normal, env', [], H) ∧ keepR env env' ∧ env'.val 8 = .int .i64 (0 : Nat) := by
  generalize hr : evCode Try.prog call lf 79 none (cAt Try.f26 (pR ++ [1, 0, 0, 1, 1, 0])) env [] H = out
  simp [pR, Try.f26] at hr
  subst hr
  exact ⟨_, rfl, by simp [keepR], by simp⟩
theorem rs_R5 {call : CallF} {lf : Nat} {env : Env} {H : Heap} {i : Nat} (e5 : env.val 5 = .int .i64 i) (hi : i < 1099511627776) : ∃ env', evCode Try.prog call lf 79 none (cAt Try.f26 (pR ++ [1, 1])) env [] H = some (.normal, env', [], H) ∧ env'.val 2 = env.val 2 ∧ env'.val 3 = env.val 3 ∧ env'.val 5 = .int .i64 ((i + 1 : Nat) : Int) := by
  have w1 : IntKind.i64.wrap ((i : Int) + 1) = (i : Int) + 1 := wrapI (by omega) (by omega)
  generalize hr : evCode Try.prog call lf 79 none (cAt Try.f26 (pR ++ [1, 1])) env [] H = out
  simp [pR, Try.f26, e5, w1] at hr
  subst hr
  exact ⟨_, rfl, by simp, by simp, by simp⟩

theorem sameN_split (x y : NodeD) : sameN x y = (sameN0 x y && decide (x.l = y.l)) := by
  unfold sameN sameN0
  by_cases h : x.l = y.l
  · simp [h]
  · simp [h]

theorem rs_round {call : CallF} {lf : Nat} {env : Env} {H : Heap} {b2 b3 i : Nat} {p s p' s' sx sy : Value} {cs cs' : List (List Value)} {x y : NodeD} (hw : H.Wf)
    (e2 : env.val 2 = .pointer (some ⟨b2, 0, none⟩)) (g2 : H.get b2 = some (.cells true 2 [p, s])) (hs : rdS H 3 s = some cs) (e3 : env.val 3 = .pointer (some ⟨b3, 0, none⟩)) (g3 : H.get b3 = some (.cells true 2 [p', s'])) (hs' : rdS H 3 s' = some cs')
    (e5 : env.val 5 = .int .i64 i) (hi : i < 1099511627776) (hx : cs[i]? = some [.int .i64 x.op, .int .i64 x.n, sx]) (hy : cs'[i]? = some [.int .i64 y.op, .int .i64 y.n, sy]) (lx : rdInts H .i64 sx = some x.l) (ly : rdInts H .i64 sy = some y.l) (fl : x.l.length < 1099511627776) (hlf : x.l.length < lf) :
    ∃ H', Kept H H' none ∧ (sameN x y = true → ∃ env', evCode Try.prog call lf 79 none (cAt Try.f26 pR) env [] H = some (.normal, env', [], H') ∧ env'.val 2 = env.val 2 ∧ env'.val 3 = env.val 3 ∧ env'.val 5 = .int .i64 ((i + 1 : Nat) : Int)) ∧
      (sameN x y = false → ∃ env', evCode Try.prog call lf 79 none (cAt Try.f26 pR) env [] H = some (.ret, env', [], H') ∧ env'.val 4 = .bool false) := by
  have lu := (List.getElem?_eq_some_iff.1 hx).1
  obtain ⟨a1, r1, u2, u3, u5⟩ := rs_head (call := call) (lf := lf) e2 g2 hs e5 lu
  have ox := rdS_one (rdInts_rd lx)
  have oy := rdS_one (rdInts_rd ly)
  obtain ⟨a2, r2, v2, v3, v5, v6, v7⟩ := rs_R6 (call := call) (lf := lf) (env := a1) hw (u2.trans e2) g2 hs (u3.trans e3) g3 hs' (u5.trans e5) hx hy ⟨ox.2.1, ox.2.2.2⟩ ⟨oy.2.1, oy.2.2.2⟩
  obtain ⟨kp, g6, g7⟩ := twoN_spec hw x y sx sy
  have xt := kp.ext hw
  have lx' := rdInts_ext xt lx
  have ly' := rdInts_ext xt ly
  refine ⟨twoN H x y sx sy, kp, ?_⟩
  obtain ⟨q1, q2⟩ := rs_R7 (call := call) (lf := lf) (env := a2) v6 g6 lx' v7 g7 ly'
  have body : ∀ {o : Out}, evCode Try.prog call lf 79 none (cAt Try.f26 (pR ++ [1, 0, 0, 1])) a2 [] (twoN H x y sx sy) = some o → evCode Try.prog call lf 79 none (cAt Try.f26 (pR ++ [1, 0, 0])) a1 [] H = some o := fun ho => by
    rw [ev_then (c := cAt Try.f26 (pR ++ [1, 0, 0])) (b := cAt Try.f26 (pR ++ [1, 0, 0, 1])) rfl r2, ho]
  rw [sameN_split]
  cases h0 : sameN0 x y with
  | false =>
    obtain ⟨a3, r3, k4⟩ := q2 h0
    have hb := body (ev_stop (c := cAt Try.f26 (pR ++ [1, 0, 0, 1])) (b := cAt Try.f26 (pR ++ [1, 0, 0, 1, 1])) rfl r3 (by intro e; cases e))
    refine ⟨(fun h => by cases h), fun _ => ⟨a3, ?_, k4⟩⟩
    rw [ev_then (c := cAt Try.f26 pR) (b := cAt Try.f26 (pR ++ [1])) rfl r1]
    refine ev_stop (c := cAt Try.f26 (pR ++ [1])) (a := cAt Try.f26 (pR ++ [1, 0])) (b := cAt Try.f26 (pR ++ [1, 1])) rfl ?_ (by intro e; cases e)
    rw [show cAt Try.f26 (pR ++ [1, 0]) = .block 1 (cAt Try.f26 (pR ++ [1, 0, 0])) from rfl, evCode_block, hb]
  | true =>
    obtain ⟨a3, r3, k3⟩ := q1 h0
    obtain ⟨a4, r4, k4, w8⟩ := rs_R9 (call := call) (lf := lf) (env := a3) (H := twoN H x y sx sy)
    have k := k3.trans k4
    have hab : x.l.length = y.l.length := by
      unfold sameN0 at h0
      simp only [Bool.and_eq_true, decide_eq_true_eq] at h0
      exact h0.2.2
    obtain ⟨t1, t2⟩ := rt_loop (call := call) (lf := lf) g6 lx' g7 ly' hab fl x.l.length 0 lf a4 hlf (by omega) (k.2.2.2.1.trans v6) (k.2.2.2.2.trans v7) w8
    have hloop : ∀ {o : Out}, evLoop Try.prog call lf 79 none (cAt Try.f26 pTr) lf a4 [] (twoN H x y sx sy) = some o → evCode Try.prog call lf 79 none (cAt Try.f26 (pR ++ [1, 0, 0, 1])) a2 [] (twoN H x y sx sy) = (match some o with
        | some (.exit id', env', ds', H') => if id' = 2 then some (.normal, env', ds', H') else some (.exit id', env', ds', H')
        | r => r) := fun ho => by
      rw [ev_then (c := cAt Try.f26 (pR ++ [1, 0, 0, 1])) (b := cAt Try.f26 (pR ++ [1, 0, 0, 1, 1])) rfl r3, ev_then (c := cAt Try.f26 (pR ++ [1, 0, 0, 1, 1])) (b := cAt Try.f26 (pR ++ [1, 0, 0, 1, 1, 1])) rfl r4,
        show cAt Try.f26 (pR ++ [1, 0, 0, 1, 1, 1]) = .block 2 (.loop (cAt Try.f26 pTr)) from rfl, evCode_block, evCode_loop, ho]
      rfl
    simp only [List.drop_zero] at t1 t2
    simp only [Bool.true_and, decide_eq_true_eq, decide_eq_false_iff_not]
    constructor
    · intro he
      obtain ⟨a5, r5, k5⟩ := t1 he
      have hb := body (hloop r5)
      have kk := k.trans k5
      obtain ⟨a6, r6, w2, w3, w5⟩ := rs_R5 (call := call) (lf := lf) (env := a5) (H := twoN H x y sx sy) (kk.2.2.1.trans (v5.trans (u5.trans e5))) hi
      refine ⟨a6, ?_, w2.trans (kk.1.trans (v2.trans u2)), w3.trans (kk.2.1.trans (v3.trans u3)), w5⟩
      rw [ev_then (c := cAt Try.f26 pR) (b := cAt Try.f26 (pR ++ [1])) rfl r1]
      have hblk : evCode Try.prog call lf 79 none (cAt Try.f26 (pR ++ [1, 0])) a1 [] H = some (.normal, a5, [], twoN H x y sx sy) := by
        rw [show cAt Try.f26 (pR ++ [1, 0]) = .block 1 (cAt Try.f26 (pR ++ [1, 0, 0])) from rfl, evCode_block, hb]
      rw [ev_then (c := cAt Try.f26 (pR ++ [1])) (b := cAt Try.f26 (pR ++ [1, 1])) rfl hblk, r6]
    · intro he
      obtain ⟨a5, r5, k5⟩ := t2 he
      have hb := body (hloop r5)
      refine ⟨a5, ?_, k5⟩
      rw [ev_then (c := cAt Try.f26 pR) (b := cAt Try.f26 (pR ++ [1])) rfl r1]
      refine ev_stop (c := cAt Try.f26 (pR ++ [1])) (a := cAt Try.f26 (pR ++ [1, 0])) (b := cAt Try.f26 (pR ++ [1, 1])) rfl ?_ (by intro e; cases e)
      rw [show cAt Try.f26 (pR ++ [1, 0]) = .block 1 (cAt Try.f26 (pR ++ [1, 0, 0])) from rfl, evCode_block, hb]

theorem rs_loop {call : CallF} {lf : Nat} {H0 : Heap} {b2 b3 : Nat} {p s p' s' : Value} {cs cs' : List (List Value)} {xs ys : List NodeD} (g2 : H0.get b2 = some (.cells true 2 [p, s])) (g3 : H0.get b3 = some (.cells true 2 [p', s'])) (hu : nodesAt H0 s cs xs) (hv : nodesAt H0 s' cs' ys)
    (hab : xs.length = ys.length) (hn : xs.length < 1099511627776) (fx : ∀ x ∈ xs, x.l.length < 1099511627776) (hlf : ∀ x ∈ xs, x.l.length < lf) : ∀ (d i m : Nat) (env : Env) (H : Heap), d < m → xs.length = i + d → H.Wf → Ext H0 H →
    env.val 2 = .pointer (some ⟨b2, 0, none⟩) → env.val 3 = .pointer (some ⟨b3, 0, none⟩) → env.val 5 = .int .i64 i →
    ∃ H', Ext H0 H' ∧ (sameNs (xs.drop i) (ys.drop i) = true → ∃ env', evLoop Try.prog call lf 79 none (cAt Try.f26 pR) m env [] H = some (.exit 0, env', [], H')) ∧
    (sameNs (xs.drop i) (ys.drop i) = false → ∃ env', evLoop Try.prog call lf 79 none (cAt Try.f26 pR) m env [] H = some (.ret, env', [], H') ∧ env'.val 4 = .bool false)
  | d, i, 0, env, H, hm, _, _, _, _, _, _ => by omega
  | 0, i, m + 1, env, H, hm, hl, hw, hx, e2, e3, e5 => by
    obtain ⟨env', he⟩ := rs_exit (call := call) (lf := lf) e2 (hx _ _ g2) (rdS_ext hx hu.1) e5 (by have := hu.2.1; omega)
    simp only [evLoop_succ, he]
    rw [List.drop_eq_nil_of_le (by omega), List.drop_eq_nil_of_le (by omega)]
    exact ⟨H, hx, fun _ => ⟨_, rfl⟩, fun h => by cases h⟩
  | d + 1, i, m + 1, env, H, hm, hl, hw, hx, e2, e3, e5 => by
    have hxi := List.getElem?_eq_getElem (l := xs) (i := i) (by omega)
    have hyi := List.getElem?_eq_getElem (l := ys) (i := i) (by omega)
    obtain ⟨su, a1, a2⟩ := hu.2.2 i _ hxi
    obtain ⟨sv, b1, b2'⟩ := hv.2.2 i _ hyi
    obtain ⟨H1, kp, q1, q2⟩ := rs_round (call := call) (lf := lf) hw e2 (hx _ _ g2) (rdS_ext hx hu.1) e3 (hx _ _ g3) (rdS_ext hx hv.1) e5 (by omega) a1 b1 (rdInts_ext hx a2) (rdInts_ext hx b2') (fx _ (List.getElem_mem _)) (hlf _ (List.getElem_mem _))
    rw [List.drop_eq_getElem_cons (l := xs) (i := i) (by omega), List.drop_eq_getElem_cons (l := ys) (i := i) (by omega)]
    simp only [sameNs]
    cases hs : sameN (xs[i]'(by omega)) (ys[i]'(by omega)) with
    | true =>
      obtain ⟨env', he, f2, f3, f5⟩ := q1 hs
      obtain ⟨H', r0, r1, r2⟩ := rs_loop (call := call) (lf := lf) g2 g3 hu hv hab hn fx hlf d (i + 1) m env' H1 (by omega) (by omega) kp.wf (hx.trans (kp.ext hw)) (f2.trans e2) (f3.trans e3) f5
      simp only [evLoop_succ, he, Bool.true_and]
      exact ⟨H', r0, r1, r2⟩
    | false =>
      obtain ⟨env', he, k⟩ := q2 hs
      simp only [evLoop_succ, he, Bool.false_and]
      exact ⟨_, hx.trans (kp.ext hw), (fun h => by cases h), fun _ => ⟨_, rfl, k⟩⟩
end Go.Proofs.Ytpopkajkekceiaa

namespace Go.Proofs.Ytpopkajkekceiaa
open Go Go.Abs
set_option maxRecDepth 100000
set_option linter.unusedSimpArgs false
set_option linter.unusedVariables false

/-- The reference's Same. -/
noncomputable def sameRC : Contract Try.prog := Contract.plain 26
  (fun args H => match args with
    | [v, w] => match rdFit H v, rdFit H w with
      | some f, some g => if f.nodes.length < 1099511627776 then some (.ret (.bool (sameFL f g))) else none
      | _, _ => none
    | _ => none) (by
    intro args H res hw hr
    split at hr
    · rename_i v w
      split at hr
      · rename_i f g h1 h2
        split at hr
        · rename_i hn
          simp only [Option.some.injEq] at hr
          subst hr
          obtain ⟨hf, ff⟩ := rdFit_inv h1
          obtain ⟨hg, fg⟩ := rdFit_inv h2
          obtain ⟨s, cs, rfl, os, ns⟩ := rdFun_nodes hf
          obtain ⟨s', cs', rfl, os', ns'⟩ := rdFun_nodes hg
          have x1 := Ext.push hw (.cells true 2 [.int .i64 f.params, s])
          have w1 := hw.push (.cells true 2 [.int .i64 f.params, s])
          have x2 := x1.trans (Ext.push w1 (.cells true 2 [.int .i64 g.params, s']))
          have w2 := w1.push (.cells true 2 [.int .i64 g.params, s'])
          obtain ⟨g1, g2⟩ := two_cells (H := H) (p := .int .i64 f.params) (s := s) (q := .int .i64 g.params) (s' := s')
          have hnx : ((H.push (.cells true 2 [.int .i64 f.params, s])).push (.cells true 2 [.int .i64 g.params, s'])).next = H.next + 2 := rfl
          have ms := ns.ext x2
          have ms' := ns'.ext x2
          generalize hH : (H.push (.cells true 2 [.int .i64 f.params, s])).push (.cells true 2 [.int .i64 g.params, s']) = H2 at *
          have a0 : loadA Try.prog 3 H2 H.next 0 = some (.int .i64 f.params) := by simp [loadA, g1]
          have a1 : loadA Try.prog 22 H2 H.next 1 = some s := by simp [loadA, g1]
          have b0 : loadA Try.prog 3 H2 (H.next + 1) 0 = some (.int .i64 g.params) := by simp [loadA, g2]
          have b1 : loadA Try.prog 22 H2 (H.next + 1) 1 = some s' := by simp [loadA, g2]
          have lu := len_of (H' := H2) (P := Try.prog) (t := 22) ms.1 Try.underlying22
          have lv := len_of (H' := H2) (P := Try.prog) (t := 22) ms'.1 Try.underlying22
          rw [ms.2.1] at lu
          rw [ms'.2.1] at lv
          unfold sameFL
          by_cases c1 : f.params = g.params
          · have d1 : (f.params != g.params) = false := by simp [c1]
            by_cases c2 : f.nodes.length = g.nodes.length
            · have d2 : ((f.nodes.length : Int) != (g.nodes.length : Int)) = false := by simp [c2]
              obtain ⟨rm1, rm2⟩ := roomOf_node f
              have aux : ∀ env, env.val 2 = .pointer (some ⟨H.next, 0, none⟩) → env.val 3 = .pointer (some ⟨H.next + 1, 0, none⟩) → env.val 5 = .int .i64 (0 : Nat) →
                  ∃ H', Ext H2 H' ∧ (sameNs f.nodes g.nodes = true → ∃ env', evLoop Try.prog (fun _ _ => none) (roomOf f) 79 none (cAt Try.f26 pR) (roomOf f) env [] H2 = some (.exit 0, env', [], H')) ∧
                  (sameNs f.nodes g.nodes = false → ∃ env', evLoop Try.prog (fun _ _ => none) (roomOf f) 79 none (cAt Try.f26 pR) (roomOf f) env [] H2 = some (.ret, env', [], H') ∧ env'.val 4 = .bool false) := by
                intro env e2 e3 e5
                have := rs_loop (call := fun _ _ => none) (lf := roomOf f) g1 g2 ms ms' c2 hn ff rm2 f.nodes.length 0 (roomOf f) env H2 rm1 (by omega) w2 (fun _ _ h => h) e2 e3 e5
                rw [List.drop_zero, List.drop_zero] at this
                exact this
              generalize hE : evFn Try.prog (fun _ _ => none) (roomOf f) 26 [.agg #[.int .i64 f.params, s], .agg #[.int .i64 g.params, s']] H = out
              have hr := hE
              simp [Try.f26, os, os', hH, a0, a1, b0, b1, lu, lv, d1, d2, -bne_eq_false_iff_eq] at hr
              generalize hL : evLoop _ _ _ _ _ _ _ _ _ _ = L at hr
              have aux2 : ∀ env, evLoop Try.prog (fun _ _ => none) (roomOf f) 79 none (cAt Try.f26 pR) (roomOf f) env [] H2 = L → env.val 2 = .pointer (some ⟨H.next, 0, none⟩) → env.val 3 = .pointer (some ⟨H.next + 1, 0, none⟩) → env.val 5 = .int .i64 (0 : Nat) →
                  ∃ H', Ext H2 H' ∧ (sameNs f.nodes g.nodes = true → ∃ env', L = some (.exit 0, env', [], H')) ∧ (sameNs f.nodes g.nodes = false → ∃ env', L = some (.ret, env', [], H') ∧ env'.val 4 = .bool false) := fun env hL e2 e3 e5 => by
                have := aux env e2 e3 e5
                rw [hL] at this
                exact this
              obtain ⟨H', x3, q1, q2⟩ := aux2 _ hL (by simp) (by simp) (by simp)
              refine ⟨rfl, fun _ _ => none, H', noCall_ok, roomOf f, ?_, x2.trans x3⟩
              rw [hE]
              cases hs : sameNs f.nodes g.nodes with
              | true =>
                obtain ⟨env', rfl⟩ := q1 hs
                simpa [c1] using hr.symm
              | false =>
                obtain ⟨env', rfl, k⟩ := q2 hs
                simpa [c1, k] using hr.symm
            · have d2 : ((f.nodes.length : Int) != (g.nodes.length : Int)) = true := by simp; omega
              refine ⟨rfl, fun _ _ => none, H2, noCall_ok, 0, ?_, x2⟩
              have hns : sameNs f.nodes g.nodes = false := by
                cases h : sameNs f.nodes g.nodes with
                | true => exact absurd (sameNs_len h) c2
                | false => rfl
              generalize hr : evFn Try.prog (fun _ _ => none) 0 26 [.agg #[.int .i64 f.params, s], .agg #[.int .i64 g.params, s']] H = out
              simp [Try.f26, os, os', hH, a0, a1, b0, b1, lu, lv, d1, d2, undef, -bne_eq_false_iff_eq] at hr
              subst hr
              simp [hns]
          · have d1 : (f.params != g.params) = true := by simp [c1]
            refine ⟨rfl, fun _ _ => none, H2, noCall_ok, 0, ?_, x2⟩
            generalize hr : evFn Try.prog (fun _ _ => none) 0 26 [.agg #[.int .i64 f.params, s], .agg #[.int .i64 g.params, s']] H = out
            simp [Try.f26, os, os', hH, a0, a1, b0, b1, lu, lv, d1, undef, -bne_eq_false_iff_eq] at hr
            subst hr
            simp [c1]
        · cases hr
      · cases hr
    · cases hr)
theorem sameR_hit {cs : List (Contract Try.prog)} {H : Heap} {v w : Value} {f g : FunD} (h1 : rdFit H v = some f) (h2 : rdFit H w = some g) (hn : f.nodes.length < 1099511627776) : callOf (sameRC :: cs) (.fn 26 [v, w]) H = some (.ret (.bool (sameFL f g)), H) :=
  callOf_hit rfl (by simp [sameRC, Contract.plain, h1, h2, hn])
end Go.Proofs.Ytpopkajkekceiaa

namespace Go.Proofs.Ytpopkajkekceiaa
open Go Go.Abs
set_option maxRecDepth 100000
set_option linter.unusedSimpArgs false
set_option linter.unusedVariables false

/-! ### slices.Clone (35, 36) -/
theorem rdS_form {H : Heap} {es : Nat} {v : Value} {xs : List (List Value)} (h : rdS H es v = some xs) : (v = .slice none 0 0 ∧ xs = []) ∨ ∃ a n c, v = .slice (some a) n c := by
  unfold rdS at h
  split at h
  · cases h; exact .inl ⟨rfl, rfl⟩
  · exact .inr ⟨_, _, _, rfl⟩
  · exact .inr ⟨_, _, _, rfl⟩
  · cases h

theorem build0_38 {H : Heap} : buildSliceA Try.prog 38 0 [] H = some (.slice (some ⟨H.next, 0, none⟩) 0 0, H.push (.cells true 1 [])) := by rfl
theorem build0_22 {H : Heap} : buildSliceA Try.prog 22 0 [] H = some (.slice (some ⟨H.next, 0, none⟩) 0 0, H.push (.cells true 3 [])) := by rfl
theorem rd_empty {H : Heap} {es : Nat} : rdS (H.push (.cells true es [])) es (.slice (some ⟨H.next, 0, none⟩) 0 0) = some [] := by
  simp [rdS, get_push_self, capA, chunks]

/-- A row of its own: nothing, or what it says in a block that is new. -/
def rowI (es lo : Nat) (H : Heap) (xs : List (List Value)) (v : Value) : Prop :=
  (xs = [] ∧ v = .slice none 0 0) ∨ ∃ b c, v = .slice (some ⟨b, 0, none⟩) xs.length c ∧ H.get b = some (.cells true es xs.flatten) ∧ lo ≤ b ∧ b < H.next ∧ ((xs = [] ∧ c = 0) ∨ c = BIG)

theorem clone36 {call : CallF} {lf : Nat} {H : Heap} {s : Value} {l : List Int} (hw : H.Wf) (hl : rdInts H .i64 s = some l) (hn : l.length ≤ 1073741824) :
    ∃ s' H', evFn Try.prog call lf 36 [s] H = some (.ret s', H') ∧ Kept H H' none ∧ rowI 1 H.next H' (l.map fun n => [.int .i64 n]) s' := by
  have hr1 := rdInts_rd hl
  generalize hr : evFn Try.prog call lf 36 [s] H = out
  rcases rdS_form hr1 with ⟨rfl, hx⟩ | ⟨a, n, c, rfl⟩
  · simp [Try.f36, eqA, Try.underlying38] at hr
    subst hr
    exact ⟨_, _, rfl, Kept.refl hw _, .inl ⟨hx, rfl⟩⟩
  · have k1 := (Kept.refl hw none).push (.cells true 1 [])
    have hr2 := rdS_ext (k1.ext hw) hr1
    by_cases h0 : l.length = 0
    · have ap := app_none (P := Try.prog) (t := 38) (H := H.push (.cells true 1 [])) elem38 zero3 (by decide) (by rw [size3]; omega) (by rw [size3]; rfl) (v := .slice (some ⟨H.next, 0, none⟩) 0 0) (xv := []) (xs := l.map fun n => [.int .i64 n]) (by rw [size3]; exact rd_empty) (by simp) (by rw [size3]; exact hr2) (by simpa using h0)
      simp [Try.f36, eqA, Try.underlying38, build0_38, ap] at hr
      subst hr
      have : l = [] := List.eq_nil_of_length_eq_zero h0
      subst this
      exact ⟨_, _, rfl, k1, .inr ⟨H.next, 0, rfl, get_push_self _ _, Nat.le_refl _, by simp, .inl ⟨rfl, rfl⟩⟩⟩
    · have ap := app_full (P := Try.prog) (t := 38) (H := H.push (.cells true 1 [])) (b := H.next) (n := 0) (c := 0) elem38 zero3 (by decide) (by rw [size3]; omega) (by rw [size3]; rfl) k1.wf (xv := []) (xs := l.map fun n => [.int .i64 n]) (by rw [size3]; exact rd_empty) (by decide) (by simp; omega) (x := .slice (some a) n c) (by rw [size3]; exact hr2) (by simpa using hn) (by rw [List.all_eq_true]; intro x hx; obtain ⟨y, hy, hxy⟩ := List.mem_flatten.1 hx; obtain ⟨z, _, rfl⟩ := List.mem_map.1 hy; rcases List.mem_singleton.1 hxy with rfl; rfl) (by simp; omega)
      simp [Try.f36, eqA, Try.underlying38, build0_38, ap] at hr
      subst hr
      refine ⟨_, _, rfl, k1.push _, .inr ⟨H.next + 1, BIG, by simp, ?_, by omega, by simp, .inr rfl⟩⟩
      have := get_push_self (H.push (.cells true 1 [])) (.cells true 1 (l.map fun n => [Value.int .i64 n]).flatten)
      simpa using this

theorem clone35 {call : CallF} {lf : Nat} {H : Heap} {s : Value} {cs : List (List Value)} (hw : H.Wf) (hs : rdS H 3 s = some cs) (hn : cs.length ≤ 1073741824) (h1 : cs.flatten.all oneC = true) :
    ∃ s' H', evFn Try.prog call lf 35 [s] H = some (.ret s', H') ∧ Kept H H' none ∧ rowI 3 H.next H' cs s' := by
  generalize hr : evFn Try.prog call lf 35 [s] H = out
  rcases rdS_form hs with ⟨rfl, hx⟩ | ⟨a, n, c, rfl⟩
  · simp [Try.f35, eqA, Try.underlying22] at hr
    subst hr
    exact ⟨_, _, rfl, Kept.refl hw _, .inl ⟨hx, rfl⟩⟩
  · have k1 := (Kept.refl hw none).push (.cells true 3 [])
    have hr2 := rdS_ext (k1.ext hw) hs
    by_cases h0 : cs.length = 0
    · have ap := app_none (P := Try.prog) (t := 22) (H := H.push (.cells true 3 [])) elem22 zero40 (by decide) (by rw [size40]; omega) (by rw [size40]; rfl) (v := .slice (some ⟨H.next, 0, none⟩) 0 0) (xv := []) (by rw [size40]; exact rd_empty) (by simp) (by rw [size40]; exact hr2) h0
      simp [Try.f35, eqA, Try.underlying22, build0_22, ap] at hr
      subst hr
      have : cs = [] := List.eq_nil_of_length_eq_zero h0
      subst this
      exact ⟨_, _, rfl, k1, .inr ⟨H.next, 0, rfl, get_push_self _ _, Nat.le_refl _, by simp, .inl ⟨rfl, rfl⟩⟩⟩
    · have ap := app_full (P := Try.prog) (t := 22) (H := H.push (.cells true 3 [])) (b := H.next) (n := 0) (c := 0) elem22 zero40 (by decide) (by rw [size40]; omega) (by rw [size40]; rfl) k1.wf (xv := []) (by rw [size40]; exact rd_empty) (by decide) (by omega) (x := .slice (some a) n c) (by rw [size40]; exact hr2) (by omega) h1 (by omega)
      simp [Try.f35, eqA, Try.underlying22, build0_22, ap] at hr
      subst hr
      refine ⟨_, _, rfl, k1.push _, .inr ⟨H.next + 1, BIG, by simp, ?_, by omega, by simp, .inr rfl⟩⟩
      have := get_push_self (H.push (.cells true 3 [])) (.cells true 3 cs.flatten)
      simpa using this
end Go.Proofs.Ytpopkajkekceiaa

namespace Go.Proofs.Ytpopkajkekceiaa
open Go Go.Abs
set_option maxRecDepth 100000
set_option linter.unusedSimpArgs false
set_option linter.unusedVariables false

/-! ### Copies, as data -/
theorem flatten_cell {es : Nat} : ∀ (xs : List (List Value)) (p k : Nat) (x : List Value) (y : Value), (∀ x ∈ xs, x.length = es) → xs[p]? = some x → k < es → putL xs.flatten (p * es + k) [y] = (xs.set p (x.set k y)).flatten
  | [], p, k, x, y, _, h, _ => by simp at h
  | a :: xs, 0, k, x, y, hx, h, hk => by
    simp at h; subst h
    have hl := hx a (by simp)
    simp only [putL, Nat.zero_mul, Nat.zero_add, List.flatten_cons, List.set_cons_zero, List.length_cons, List.length_nil]
    rw [List.take_append_of_le_length (by omega), List.drop_append, show k + 1 - a.length = 0 by omega, List.drop_zero, List.set_eq_take_append_cons_drop, if_pos (by omega)]
    simp
  | a :: xs, p + 1, k, x, y, hx, h, hk => by
    have hl := hx a (by simp)
    have ih := flatten_cell xs p k x y (fun z hz => hx z (by simp [hz])) (by simpa using h) hk
    simp only [List.set_cons_succ, List.flatten_cons]
    rw [← ih]
    simp only [putL, Nat.succ_mul]
    rw [List.take_append, List.take_of_length_le (by omega), show p * es + es + k - a.length = p * es + k by omega, List.drop_append, List.drop_eq_nil_of_le (by omega), List.nil_append]
    simp only [List.length_cons, List.length_nil]
    rw [show p * es + es + k + (0 + 1) - a.length = p * es + k + (0 + 1) by omega]
    simp

def nodeC (x : NodeD) (s : Value) : List Value := [.int .i64 x.op, .int .i64 x.n, s]
theorem nodeC_len (xs : List NodeD) (ss : List Value) : ∀ c ∈ List.zipWith nodeC xs ss, c.length = 3 := by
  intro c hc
  obtain ⟨i, hi, rfl⟩ := List.mem_iff_getElem.1 hc
  simp [nodeC]

theorem mapM_of_get {α β : Type} {g : α → Option β} : ∀ (xs : List α) (ys : List β), xs.length = ys.length → (∀ (i : Nat) y, ys[i]? = some y → ∃ x, xs[i]? = some x ∧ g x = some y) → xs.mapM g = some ys
  | [], [], _, _ => rfl
  | x :: xs, y :: ys, hl, h => by
    obtain ⟨x', h1, h2⟩ := h 0 y rfl
    simp at h1; subst h1
    rw [List.mapM_cons, h2, mapM_of_get xs ys (by simpa using hl) fun i z hz => by simpa using h (i + 1) z (by simpa using hz)]
    rfl
  | [], _ :: _, hl, _ => by simp at hl
  | _ :: _, [], hl, _ => by simp at hl

/-- What a function's nodes say, is what it reads as. -/
theorem rdFun_of {H : Heap} {s : Value} {cs : List (List Value)} {f : FunD} (h : nodesAt H s cs f.nodes) : rdFun H (.agg #[.int .i64 f.params, s]) = some f := by
  have : cs.mapM (rdNode H) = some f.nodes := mapM_of_get cs f.nodes h.2.1 fun i y hy => by
    obtain ⟨s', h1, h2⟩ := h.2.2 i y hy
    exact ⟨_, h1, by simp [rdNode, smallN, h2]⟩
  simp [rdFun, smallN, h.1, this]

def intsC (l : List Int) : List (List Value) := l.map fun n => [.int .i64 n]
theorem intsC_len (l : List Int) : ∀ c ∈ intsC l, c.length = 1 := by
  intro c hc
  obtain ⟨n, _, rfl⟩ := List.mem_map.1 hc
  rfl

theorem rowI.rd {es lo : Nat} {H : Heap} {xs : List (List Value)} {v : Value} (h : rowI es lo H xs v) (hes : ∀ x ∈ xs, x.length = es) : rdS H es v = some xs := by
  rcases h with ⟨rfl, rfl⟩ | ⟨b, c, rfl, hg, _, _, hc⟩
  · rfl
  · unfold rdS
    simp only [hg]
    have h1 : xs.length ≤ capA xs.length c := by
      rcases hc with ⟨rfl, rfl⟩ | rfl
      · simp [capA]
      · simp [capA]
    rw [if_pos ⟨h1, by rw [flatten_length xs hes]; omega⟩, List.drop_zero, Go.Abs.chunks_flatten xs hes]
theorem rowI.ints {lo : Nat} {H : Heap} {l : List Int} {v : Value} (h : rowI 1 lo H (intsC l) v) : rdInts H .i64 v = some l := rdInts_of (h.rd (intsC_len l))
theorem rowI.keep {es lo : Nat} {H K : Heap} {xs : List (List Value)} {v : Value} (h : rowI es lo H xs v) (hn : H.next ≤ K.next) (hg : ∀ b, blockOf v = some b → K.get b = H.get b) : rowI es lo K xs v := by
  rcases h with h | ⟨b, c, rfl, h1, h2, h3, h4⟩
  · exact .inl h
  · exact .inr ⟨b, c, rfl, by rw [hg b rfl]; exact h1, h2, by omega, h4⟩
theorem rowI.low {es lo lo' : Nat} {H : Heap} {xs : List (List Value)} {v : Value} (h : rowI es lo H xs v) (hl : lo' ≤ lo) : rowI es lo' H xs v := by
  rcases h with h | ⟨b, c, h0, h1, h2, h3⟩
  · exact .inl h
  · exact .inr ⟨b, c, h0, h1, by omega, h3⟩
theorem rowI.blk {es lo : Nat} {H : Heap} {xs : List (List Value)} {v : Value} (h : rowI es lo H xs v) : ∀ b, blockOf v = some b → lo ≤ b ∧ b < H.next := by
  rcases h with ⟨_, rfl⟩ | ⟨b, c, rfl, h1, h2, h3, h4⟩
  · intro b hb; cases hb
  · intro b' hb; cases hb; exact ⟨h2, h3⟩

/-- A function whose first i nodes stand in rows of their own. -/
structure CI (lo lo2 : Nat) (K : Heap) (xs : List NodeD) (src : List Value) (v : Value) (i : Nat) (ss : List Value) : Prop where
  row : rowI 3 lo K (List.zipWith nodeC xs ss) v
  vb : ∀ b, blockOf v = some b → b < lo2
  lok : lo2 ≤ K.next
  len : ss.length = xs.length
  old : ∀ (j : Nat) s, i ≤ j → ss[j]? = some s → src[j]? = some s
  new : ∀ (j : Nat) x s, j < i → xs[j]? = some x → ss[j]? = some s → rowI 1 lo2 K (intsC x.l) s
  sep : ∀ (j k : Nat) s t b c, j < k → k < i → ss[j]? = some s → ss[k]? = some t → blockOf s = some b → blockOf t = some c → b < c

theorem CI.nodes {lo lo2 : Nat} {K : Heap} {xs : List NodeD} {src ss : List Value} {v : Value} (h : CI lo lo2 K xs src v xs.length ss) : nodesAt K v (List.zipWith nodeC xs ss) xs := by
  refine ⟨h.row.rd (nodeC_len _ _), by simp [h.len], fun i x hx => ?_⟩
  have hi := (List.getElem?_eq_some_iff.1 hx).1
  have hs := List.getElem?_eq_getElem (l := ss) (i := i) (by rw [h.len]; exact hi)
  exact ⟨_, by simp [List.getElem?_zipWith, hx, hs, nodeC], (h.new i x _ hi hx hs).ints⟩

/-- One node more. -/
theorem CI.step {lo lo2 : Nat} {K K' : Heap} {xs : List NodeD} {src ss : List Value} {v s' : Value} {i : Nat} {x : NodeD} (h : CI lo lo2 K xs src v i ss) (hx : xs[i]? = some x) (hk : Kept K K' none) (hs : rowI 1 K.next K' (intsC x.l) s') {b : Nat} (hb : blockOf v = some b) :
    CI lo lo2 (K'.set b (.cells true 3 (List.zipWith nodeC xs (ss.set i s')).flatten)) xs src v (i + 1) (ss.set i s') := by
  have hi := (List.getElem?_eq_some_iff.1 hx).1
  have hbl := h.vb b hb
  have hl2 := h.lok
  have hle := hk.le
  have get : ∀ (j : Nat) s, (ss.set i s')[j]? = some s → (j = i ∧ s = s') ∨ (j ≠ i ∧ ss[j]? = some s) := by
    intro j s hj
    by_cases e : j = i
    · subst e
      rw [List.getElem?_set_self (by rw [h.len]; exact hi)] at hj
      cases hj
      exact .inl ⟨rfl, rfl⟩
    · rw [List.getElem?_set_ne (fun e' => e e'.symm)] at hj
      exact .inr ⟨e, hj⟩
  refine ⟨?_, h.vb, by rw [Heap.next_set]; omega, by rw [List.length_set]; exact h.len, ?_, ?_, ?_⟩
  · rcases h.row with ⟨h1, h2⟩ | ⟨b', c, h1, h2, h3, h4, h5⟩
    · rw [h2] at hb; cases hb
    · rw [h1] at hb
      simp only [blockOf, Option.some.injEq] at hb
      subst hb
      refine .inr ⟨b', c, by rw [h1]; simp, get_set_self _ _ _, h3, by rw [Heap.next_set]; omega, ?_⟩
      rcases h5 with ⟨h5, h6⟩ | h5
      · exfalso
        have := congrArg List.length h5
        rw [List.length_zipWith, h.len, Nat.min_self] at this
        simp at this
        subst this; simp at hi
      · exact .inr h5
  · intro j s hj hs'
    rcases get j s hs' with ⟨e, _⟩ | ⟨e, h'⟩
    · omega
    · exact h.old j s (by omega) h'
  · intro j y s hj hy hs'
    have hne : ∀ (u : Value) (xs' : List (List Value)) (H : Heap), rowI 1 lo2 H xs' u → ∀ c, blockOf u = some c → c ≠ b := fun u xs' H hu c hc => by have := (hu.blk c hc).1; omega
    rcases get j s hs' with ⟨e, e2⟩ | ⟨e, h'⟩
    · subst e; subst e2
      rw [hx] at hy; cases hy
      have hs2 := hs.low h.lok
      exact hs2.keep (by simp) (fun c hc => get_set_ne (hne _ _ _ hs2 c hc))
    · have h2 := h.new j y s (by omega) hy h'
      refine h2.keep (by rw [Heap.next_set]; omega) (fun c hc => ?_)
      rw [get_set_ne (hne _ _ _ h2 c hc), hk.get c (h2.blk c hc).2 (by simp)]
  · intro j k s t c d hjk hk' hs1 hs2 hc hd
    rcases get j s hs1 with ⟨e, e2⟩ | ⟨e, h1⟩
    · omega
    · rcases get k t hs2 with ⟨e', e2'⟩ | ⟨e', h2⟩
      · subst e'; subst e2'
        obtain ⟨y, hy⟩ : ∃ y, xs[j]? = some y := ⟨_, List.getElem?_eq_getElem (by omega)⟩
        have := ((h.new j y s hjk hy h1).blk c hc).2
        have := (hs.blk d hd).1
        omega
      · exact h.sep j k s t c d hjk (by omega) h1 h2 hc hd
end Go.Proofs.Ytpopkajkekceiaa

namespace Go.Proofs.Ytpopkajkekceiaa
open Go Go.Abs
set_option maxRecDepth 100000
set_option linter.unusedSimpArgs false
set_option linter.unusedVariables false

/-! ### Copy (22) -/
def pCp : List Nat := [1, 1, 0, 1, 0, 0]

theorem cp_exit {call : CallF} {lf : Nat} {env : Env} {H : Heap} {i n : Nat} (e10 : env.val 10 = .int .i64 n) (e11 : env.val 11 = .int .i64 i) (hi : n ≤ i) :
    ∃ env', evCode Try.prog call lf 28 none (cAt Try.f22 pCp) env [] H = some (.exit 0, env', [], H) ∧ env'.val 1 = env.val 1 ∧ env'.val 2 = env.val 2 := by
  have c1 : ¬ (i : Int) < (n : Int) := by omega
  generalize hr : evCode Try.prog call lf 28 none (cAt Try.f22 pCp) env [] H = out
  simp [pCp, Try.f22, e10, e11, c1, hi] at hr
  subst hr
  exact ⟨_, rfl, by simp, by simp⟩

theorem cp_step {call : CallF} {lf : Nat} {env : Env} {K K' K2 : Heap} {b1 i n : Nat} {v si s' : Value} (e1 : env.val 1 = .pointer (some ⟨b1, 0, none⟩)) (e10 : env.val 10 = .int .i64 n) (e11 : env.val 11 = .int .i64 i) (hi : i < n) (hn : n ≤ 1073741824)
    (ld : loadA Try.prog 22 K b1 1 = some v) (ld' : loadA Try.prog 22 K' b1 1 = some v) (ev : eqV v v = true) (ix : indexAddrA Try.prog 22 v i = some (.pointer (some ⟨blk v, offs v + i * 3, none⟩)))
    (lo : loadA Try.prog 38 K (blk v) (offs v + i * 3 + 2) = some si) (hc : call (.fn 36 [si]) K = some (.ret s', K')) (st : storeA Try.prog 38 K' (blk v) (offs v + i * 3 + 2) s' = some K2) :
    ∃ env', evCode Try.prog call lf 28 none (cAt Try.f22 pCp) env [] K = some (.normal, env', [], K2) ∧ env'.val 1 = env.val 1 ∧ env'.val 2 = env.val 2 ∧ env'.val 10 = env.val 10 ∧ env'.val 11 = .int .i64 ((i + 1 : Nat) : Int) := by
  have c1 : (i : Int) < (n : Int) := by omega
  have w1 : IntKind.i64.wrap ((i : Int) + 1) = (i : Int) + 1 := wrapI (by omega) (by omega)
  generalize hr : evCode Try.prog call lf 28 none (cAt Try.f22 pCp) env [] K = out
  simp [pCp, Try.f22, e10, e11, c1, hi] at hr
  rw [evDraw_tab (tab := [(1, [12])])] at hr
  · simp [e1, e10, e11, ld, ld', ev, ix, lo, callA, hc, st, w1] at hr
    subst hr
    exact ⟨_, rfl, by simp [e1], by simp, by simp [e10], by simp⟩
  · kernel_rfl
  · kernel_rfl

theorem store38 {H : Heap} {b : Nat} {cs : List (List Value)} {i : Nat} {x : List Value} {s : Value} (h : H.get b = some (.cells true 3 cs.flatten)) (hl : ∀ c ∈ cs, c.length = 3) (hx : cs[i]? = some x) (hs : oneC s = true ∧ s.cells = #[s]) :
    storeA Try.prog 38 H b (i * 3 + 2) s = some (H.set b (.cells true 3 (cs.set i (x.set 2 s)).flatten)) := by
  have hlt := (List.getElem?_eq_some_iff.1 hx).1
  simp only [storeA, h, info38, size38, hs.2]
  rw [if_pos ⟨rfl, by rw [flatten_length cs hl]; omega, by simp [hs.1]⟩, ← flatten_cell cs i 2 x s hl hx (by omega)]

theorem zip_set {xs : List NodeD} {ss : List Value} {i : Nat} {x : NodeD} {s s' : Value} (hx : xs[i]? = some x) (hs : ss[i]? = some s) (hl : ss.length = xs.length) :
    (List.zipWith nodeC xs ss)[i]? = some (nodeC x s) ∧ (List.zipWith nodeC xs ss).set i ((nodeC x s).set 2 s') = List.zipWith nodeC xs (ss.set i s') := by
  have hi := (List.getElem?_eq_some_iff.1 hx).1
  refine ⟨by simp [List.getElem?_zipWith, hx, hs], ?_⟩
  refine List.ext_getElem? fun j => ?_
  by_cases hj : j = i
  · subst hj
    rw [List.getElem?_set_self (by simp [hl, hi]), List.getElem?_zipWith, hx, List.getElem?_set_self (by omega)]
    rfl
  · rw [List.getElem?_set_ne (fun e => hj e.symm), List.getElem?_zipWith, List.getElem?_zipWith, List.getElem?_set_ne (fun e => hj e.symm)]

theorem cp_loop {call : CallF} {lf : Nat} {H : Heap} {xs : List NodeD} {src : List Value} {b1 b2 lo lo2 : Nat} {p v : Value} (hw : H.Wf) {c0 : CallF} (hc : ∀ s K, call (.fn 36 [s]) K = evFn Try.prog c0 lf 36 [s] K)
    (hsrc : ∀ (j : Nat) x s, xs[j]? = some x → src[j]? = some s → rdInts H .i64 s = some x.l) (hn : xs.length ≤ 1073741824) (hll : ∀ x ∈ xs, x.l.length ≤ 1073741824) (hb1 : H.next ≤ b1) (h12 : b1 < lo) (hb2 : H.next ≤ b2) (h22 : b2 < lo) :
    ∀ (d i m : Nat) (env : Env) (K : Heap) (ss : List Value), d < m → xs.length = i + d → K.Wf → Kept H K none → K.get b1 = some (.cells true 2 [p, v]) → K.get b2 = some (.cells true 2 [.int .i64 0, .slice none 0 0]) → CI lo lo2 K xs src v i ss →
    env.val 1 = .pointer (some ⟨b1, 0, none⟩) → env.val 10 = .int .i64 xs.length → env.val 11 = .int .i64 i →
    ∃ env' K' ss', evLoop Try.prog call lf 28 none (cAt Try.f22 pCp) m env [] K = some (.exit 0, env', [], K') ∧ env'.val 1 = env.val 1 ∧ env'.val 2 = env.val 2 ∧ K'.Wf ∧ Kept H K' none ∧ K'.get b1 = some (.cells true 2 [p, v]) ∧ K'.get b2 = some (.cells true 2 [.int .i64 0, .slice none 0 0]) ∧ CI lo lo2 K' xs src v xs.length ss'
  | d, i, 0, env, K, ss, hm, _, _, _, _, _, _, _, _, _ => by omega
  | 0, i, m + 1, env, K, ss, hm, hl, kw, hk, g1, g2, hI, e1, e10, e11 => by
    obtain ⟨env', he, u1, u2⟩ := cp_exit (call := call) (lf := lf) (H := K) e10 e11 (by omega)
    simp only [evLoop_succ, he]
    have : i = xs.length := by omega
    subst this
    exact ⟨env', K, ss, rfl, u1, u2, kw, hk, g1, g2, hI⟩
  | d + 1, i, m + 1, env, K, ss, hm, hl, kw, hk, g1, g2, hI, e1, e10, e11 => by
    have hi : i < xs.length := by omega
    have hx := List.getElem?_eq_getElem hi
    have hs := List.getElem?_eq_getElem (l := ss) (i := i) (by rw [hI.len]; exact hi)
    have hrd := rdInts_ext (hk.ext hw) (hsrc i _ _ hx (hI.old i _ (Nat.le_refl _) hs))
    obtain ⟨s', K', hev, kk, hrow⟩ := clone36 (call := c0) (lf := lf) kw hrd (hll _ (List.getElem_mem _))
    obtain ⟨z1, z2⟩ := zip_set (s' := s') hx hs hI.len
    have hrv := hI.row.rd (nodeC_len _ _)
    have hlen : (List.zipWith nodeC xs ss).length = xs.length := by simp [hI.len]
    have ix := rdS_index hrv Try.underlying22 info40 size40 (n := (i : Int)) (by omega) (by omega)
    simp only [Int.toNat_natCast] at ix
    have lo' := rdS_load hrv z1 (k := 2) (u := ss[i]'(by rw [hI.len]; exact hi)) rfl info38 Try.underlying38 (t := 38) rfl
    have hk2 : K'.get b1 = some (.cells true 2 [p, v]) := kk.of_get kw g1 (by simp)
    have os := rdS_one (hrow.rd (intsC_len _))
    -- where the nodes stand
    rcases hI.row with ⟨h1, _⟩ | ⟨bn, c, hv, hgn, hlo, hbn, hcc⟩
    · exfalso
      have := congrArg List.length h1
      rw [hlen] at this
      simp at this
      subst this; simp at hi
    · have hgn' : K'.get bn = some (.cells true 3 (List.zipWith nodeC xs ss).flatten) := kk.of_get kw hgn (by simp)
      have st := store38 (s := s') hgn' (nodeC_len _ _) z1 ⟨os.2.1, os.1⟩
      rw [z2] at st
      have hbl : blk v = bn := by rw [hv]; rfl
      have hof : offs v = 0 := by rw [hv]; rfl
      have hb : blockOf v = some bn := by rw [hv]; rfl
      have hI' := hI.step hx kk hrow hb
      have hbn2 : bn < K'.next := Nat.lt_of_lt_of_le hbn kk.le
      obtain ⟨env', he, u1, u2, u10, u11⟩ := cp_step (call := call) (lf := lf) (K := K) (K' := K') (K2 := K'.set bn (.cells true 3 (List.zipWith nodeC xs (ss.set i s')).flatten)) e1 e10 e11 hi hn (by simp [loadA, g1]) (by simp [loadA, hk2]) (rdS_one hrv).2.2.1 ix lo' ((hc _ _).trans hev) (by rw [hbl, hof, Nat.zero_add]; exact st)
      obtain ⟨e, K3, ss', r, v1, v2, rest⟩ := cp_loop hw hc hsrc hn hll hb1 h12 hb2 h22 d (i + 1) m env' _ (ss.set i s') (by omega) (by omega) (kk.wf.set hbn2 _) ((hk.trans kk).set (by omega) hbn2 _)
        (by rw [get_set_ne (by omega)]; exact hk2) (by rw [get_set_ne (by omega)]; exact kk.of_get kw g2 (by simp)) hI' (u1.trans e1) (u10.trans e10) u11
      simp only [evLoop_succ, he]
      exact ⟨e, K3, ss', r, v1.trans u1, v2.trans u2, rest⟩
end Go.Proofs.Ytpopkajkekceiaa

namespace Go.Proofs.Ytpopkajkekceiaa
open Go Go.Abs
set_option maxRecDepth 100000
set_option linter.unusedSimpArgs false
set_option linter.unusedVariables false

theorem CI.keep {lo lo2 : Nat} {K K' : Heap} {xs : List NodeD} {src ss : List Value} {v : Value} {i : Nat} (h : CI lo lo2 K xs src v i ss) (hn : K.next ≤ K'.next) (hlo : lo ≤ lo2) (hg : ∀ b, lo ≤ b → b < K.next → K'.get b = K.get b) : CI lo lo2 K' xs src v i ss := by
  refine ⟨h.row.keep hn fun b hb => hg b (h.row.blk b hb).1 (h.row.blk b hb).2, h.vb, Nat.le_trans h.lok hn, h.len, h.old, fun j x s hj hx hs => ?_, h.sep⟩
  have h2 := h.new j x s hj hx hs
  exact h2.keep hn fun b hb => hg b (by have := (h2.blk b hb).1; omega) (h2.blk b hb).2

theorem nodes_src {H : Heap} {s : Value} {cs : List (List Value)} {xs : List NodeD} (h : nodesAt H s cs xs) : ∃ src : List Value, src.length = xs.length ∧ List.zipWith nodeC xs src = cs ∧ ∀ (j : Nat) x t, xs[j]? = some x → src[j]? = some t → rdInts H .i64 t = some x.l := by
  have get : ∀ (j : Nat) x, xs[j]? = some x → ∃ t, cs[j]? = some (nodeC x t) ∧ (cs.map fun c => c.getD 2 undef)[j]? = some t ∧ rdInts H .i64 t = some x.l := by
    intro j x hx
    obtain ⟨t, h1, h2⟩ := h.2.2 j x hx
    exact ⟨t, h1, by rw [List.getElem?_map, h1]; rfl, h2⟩
  refine ⟨cs.map fun c => c.getD 2 undef, by simp [h.2.1], ?_, fun j x t hx ht => ?_⟩
  · refine List.ext_getElem? fun j => ?_
    cases hx : xs[j]? with
    | none =>
      have := List.getElem?_eq_none_iff.1 hx
      rw [List.getElem?_zipWith, hx, List.getElem?_eq_none (l := cs) (i := j) (by rw [h.2.1]; exact this)]
    | some x =>
      obtain ⟨t, h1, h2, _⟩ := get j x hx
      rw [List.getElem?_zipWith, hx, h2, h1]
  · obtain ⟨t', h1, h2, h3⟩ := get j x hx
    rw [ht] at h2; cases h2
    exact h3

theorem nodes_one {H : Heap} {s : Value} {cs : List (List Value)} {xs : List NodeD} (h : nodesAt H s cs xs) : cs.flatten.all oneC = true := by
  rw [List.all_eq_true]
  intro x hx
  obtain ⟨y, hy, hxy⟩ := List.mem_flatten.1 hx
  obtain ⟨i, hi, rfl⟩ := List.mem_iff_getElem.1 hy
  have hlt : i < xs.length := by rw [← h.2.1]; exact hi
  obtain ⟨t, h1, h2⟩ := h.2.2 i _ (List.getElem?_eq_getElem hlt)
  rw [List.getElem?_eq_getElem hi] at h1
  rw [Option.some.inj h1] at hxy
  simp only [List.mem_cons, List.not_mem_nil, or_false] at hxy
  rcases hxy with rfl | rfl | rfl
  · rfl
  · rfl
  · exact (ints_one h2).2

/-- Copy. -/
theorem copy_run {call : CallF} {lf : Nat} {H : Heap} {v : Value} {f : FunD} (hw : H.Wf) (hf : rdFun H v = some f) (hn : f.nodes.length ≤ 1073741824) (hll : ∀ x ∈ f.nodes, x.l.length ≤ 1073741824) (hlf : f.nodes.length < lf)
    {c0 : CallF} (hc5 : ∀ s K, call (.fn 35 [s]) K = evFn Try.prog c0 lf 35 [s] K) (hc6 : ∀ s K, call (.fn 36 [s]) K = evFn Try.prog c0 lf 36 [s] K) :
    ∃ s' K ss src lo lo2, evFn Try.prog call lf 22 [v] H = some (.ret (.agg #[.int .i64 f.params, s']), K) ∧ Kept H K none ∧ H.next ≤ lo ∧ lo ≤ lo2 ∧ CI lo lo2 K f.nodes src s' f.nodes.length ss := by
  obtain ⟨s, cs, rfl, os, ns⟩ := rdFun_nodes hf
  have k1 := ((Kept.refl hw none).push (.cells true 2 [.int .i64 f.params, s])).push (.cells true 2 [.int .i64 0, .slice none 0 0])
  obtain ⟨g1, g2⟩ := two_cells (H := H) (p := .int .i64 f.params) (s := s) (q := .int .i64 0) (s' := .slice none 0 0)
  have hnx : ((H.push (.cells true 2 [.int .i64 f.params, s])).push (.cells true 2 [.int .i64 0, .slice none 0 0])).next = H.next + 2 := rfl
  generalize hH : (H.push (.cells true 2 [.int .i64 f.params, s])).push (.cells true 2 [.int .i64 0, .slice none 0 0]) = H1 at *
  have n1 := ns.ext (k1.ext hw)
  obtain ⟨s', H2, hev, kk, hrow⟩ := clone35 (call := c0) (lf := lf) k1.wf n1.1 (by rw [n1.2.1]; exact hn) (nodes_one n1)
  have b1lt : H.next < H2.next := by have := kk.le; omega
  have b2lt : H.next + 1 < H2.next := by have := kk.le; omega
  have g1' : H2.get H.next = some (.cells true 2 [.int .i64 f.params, s]) := kk.of_get k1.wf g1 (by simp)
  have g2' : H2.get (H.next + 1) = some (.cells true 2 [.int .i64 0, .slice none 0 0]) := kk.of_get k1.wf g2 (by simp)
  have hcl : ∀ c ∈ cs, c.length = 3 := by
    intro c hc
    obtain ⟨i, hi, rfl⟩ := List.mem_iff_getElem.1 hc
    exact rdS_elem ns.1 (List.getElem?_eq_getElem hi)
  have hrd' := hrow.rd hcl
  have os' := rdS_one hrd'
  have st1 : storeA Try.prog 22 H2 H.next 1 s' = some (H2.set H.next (.cells true 2 [.int .i64 f.params, s'])) := by
    simp [storeA, g1', os'.1, os'.2.1, putL]
  have k3 : Kept H (H2.set H.next (.cells true 2 [.int .i64 f.params, s'])) none := (k1.trans kk).set (Nat.le_refl _) b1lt _
  obtain ⟨src, q1, q2, q3⟩ := nodes_src ns
  have hI0 : CI (H.next + 2) H2.next (H2.set H.next (.cells true 2 [.int .i64 f.params, s'])) f.nodes src s' 0 src := by
    refine ⟨?_, fun b hb => (hrow.blk b hb).2, Nat.le_refl _, q1, fun j t _ h => h, fun j x t hj => by omega, fun j k t u b c hjk hk => by omega⟩
    rw [q2]
    refine (hrow.low (by omega)).keep (Nat.le_refl _) fun b hb => get_set_ne (by have := (hrow.blk b hb).1; omega)
  have ge1 : (H2.set H.next (.cells true 2 [.int .i64 f.params, s'])).get H.next = some (.cells true 2 [.int .i64 f.params, s']) := get_set_self _ _ _
  have ge2 : (H2.set H.next (.cells true 2 [.int .i64 f.params, s'])).get (H.next + 1) = some (.cells true 2 [.int .i64 0, .slice none 0 0]) := by rw [get_set_ne (by omega)]; exact g2'
  have a0 : loadA Try.prog 22 H1 H.next 1 = some s := by simp [loadA, g1]
  have a1 : loadA Try.prog 22 (H2.set H.next (.cells true 2 [.int .i64 f.params, s'])) H.next 1 = some s' := by simp [loadA, ge1]
  have lu := len_of (H' := H2.set H.next (.cells true 2 [.int .i64 f.params, s'])) (P := Try.prog) (t := 22) hrd' Try.underlying22
  rw [ns.2.1] at lu
  have c5 := (hc5 s H1).trans hev
  generalize hE : evFn Try.prog call lf 22 [.agg #[.int .i64 f.params, s]] H = out
  have hr := hE
  simp [Try.f22, os, hH, a0, a1, lu, callA, c5, st1] at hr
  generalize hL : evLoop _ _ _ _ _ _ _ _ _ _ = L at hr
  have aux : ∀ env, evLoop Try.prog call lf 28 none (cAt Try.f22 pCp) lf env [] (H2.set H.next (.cells true 2 [.int .i64 f.params, s'])) = L → env.val 1 = .pointer (some ⟨H.next, 0, none⟩) → env.val 2 = .pointer (some ⟨H.next + 1, 0, none⟩) → env.val 10 = .int .i64 f.nodes.length → env.val 11 = .int .i64 (0 : Nat) →
      ∃ env' K' ss', L = some (.exit 0, env', [], K') ∧ env'.val 1 = .pointer (some ⟨H.next, 0, none⟩) ∧ env'.val 2 = .pointer (some ⟨H.next + 1, 0, none⟩) ∧ K'.Wf ∧ Kept H K' none ∧ K'.get H.next = some (.cells true 2 [.int .i64 f.params, s']) ∧ K'.get (H.next + 1) = some (.cells true 2 [.int .i64 0, .slice none 0 0]) ∧
        CI (H.next + 2) H2.next K' f.nodes src s' f.nodes.length ss' := by
    intro env hL e1 e2 e10 e11
    obtain ⟨env', K', ss', h1, h2, h3, h4⟩ := cp_loop (call := call) (lf := lf) hw hc6 q3 hn hll (b1 := H.next) (b2 := H.next + 1) (lo := H.next + 2) (lo2 := H2.next) (by omega) (by omega) (by omega) (by omega) f.nodes.length 0 lf env _ src hlf (by omega) k3.wf k3 ge1 ge2 hI0 e1 e10 e11
    exact ⟨env', K', ss', hL.symm.trans h1, h2.trans e1, h3.trans e2, h4⟩
  obtain ⟨env', K', ss', rfl, u1, u2, kw, kK, w1, w2, hI⟩ := aux _ hL (by simp) (by simp) (by simp) (by simp)
  have b2lt' : H.next + 1 < K'.next := kw.lt w2
  have l1 : loadA Try.prog 24 K' H.next 0 = some (.agg #[.int .i64 f.params, s']) := by simp [loadA, w1]
  have st2 : storeA Try.prog 24 K' (H.next + 1) 0 (.agg #[.int .i64 f.params, s']) = some (K'.set (H.next + 1) (.cells true 2 [.int .i64 f.params, s'])) := by
    simp [storeA, w2, os'.2.1, putL]
  have l2 : loadA Try.prog 24 (K'.set (H.next + 1) (.cells true 2 [.int .i64 f.params, s'])) (H.next + 1) 0 = some (.agg #[.int .i64 f.params, s']) := by simp [loadA, get_set_self]
  have k8 := Nat.le_trans k1.le kk.le
  refine ⟨s', K'.set (H.next + 1) (.cells true 2 [.int .i64 f.params, s']), ss', src, H.next + 2, H2.next, ?_, kK.set (by omega) b2lt' _, by omega, by have := kk.le; omega, hI.keep (Nat.le_refl _) (by have := kk.le; omega) fun b hb _ => get_set_ne (by omega)⟩
  simpa [u1, u2, l1, st2, l2] using hr.symm
end Go.Proofs.Ytpopkajkekceiaa
