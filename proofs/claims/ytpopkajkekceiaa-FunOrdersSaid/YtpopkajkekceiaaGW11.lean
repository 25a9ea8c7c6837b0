/-
  A part of a proof: texts laid behind one another (W86, W87, W88, W89, W90, W91, W92, W93, W94).
-/
import Derived.Test.YtpopkajkekceiaaGW10
namespace Go.Proofs.Ytpopkajkekceiaa
open Go Go.Abs
set_option maxRecDepth 100000
set_option linter.unusedSimpArgs false
set_option linter.unusedVariables false

/-! ### FunOrders (7): the two ranges -/
def pU : List Nat := [1, 1, 1, 1, 1, 1, 1, 0, 1, 0, 0]

theorem f7_assign1 {call : CallF} {lf l : Nat} {E : Env} {H : Heap} {k op : Int} :
    ∃ env', evCode Try.prog call lf 160 (some l) (cAt Try.f7 (pU ++ [1, 0, 0, 1, 0, 1, 0, 0])) (bindA [55, 56] [.int .i64 k, .int .i64 op] E) [] H = some (.normal, env', [], H) ∧ env'.val 2 = E.val 2 ∧ env'.val 3 = E.val 3 ∧ env'.val 9 = E.val 9 ∧ env'.val 11 = E.val 11 ∧ env'.val 12 = E.val 12 ∧ env'.val 13 = .int .i64 k ∧ env'.val 14 = .int .i64 op := by
  generalize hr : evCode Try.prog call lf 160 (some l) (cAt Try.f7 (pU ++ [1, 0, 0, 1, 0, 1, 0, 0])) (bindA [55, 56] [.int .i64 k, .int .i64 op] E) [] H = out
  simp [pU, Try.f7, bindA] at hr
  subst hr
  exact ⟨_, rfl, by simp⟩
theorem f7_assign2 {call : CallF} {lf l : Nat} {E : Env} {H : Heap} {k op : Int} :
    ∃ env', evCode Try.prog call lf 160 (some l) (cAt Try.f7 (pU ++ [1, 0, 0, 1, 1, 1, 0, 1, 0, 0])) (bindA [89, 90] [.int .i64 k, .int .i64 op] E) [] H = some (.normal, env', [], H) ∧ env'.val 3 = E.val 3 ∧ env'.val 10 = E.val 10 ∧ env'.val 11 = E.val 11 ∧ env'.val 15 = E.val 15 ∧ env'.val 16 = .int .i64 k ∧ env'.val 17 = .int .i64 op := by
  generalize hr : evCode Try.prog call lf 160 (some l) (cAt Try.f7 (pU ++ [1, 0, 0, 1, 1, 1, 0, 1, 0, 0])) (bindA [89, 90] [.int .i64 k, .int .i64 op] E) [] H = out
  simp [pU, Try.f7, bindA] at hr
  subst hr
  exact ⟨_, rfl, by simp⟩

theorem f7_body1 {call : CallF} {lf : Nat} {env : Env} {H : Heap} {b2 b3 b9 b11 c j k l : Nat} {p s w : Value} {xs : List (List Value)} {op nn t many : Int} {l' : Value} {av : List Int}
    (g2 : H.get b2 = some (.cells true 2 [p, s])) (g3 : H.get b3 = some (.cells true 1 [.int .i64 many])) (g9 : H.get b9 = some (.cells true 1 [w])) (g11 : H.get b11 = some (.cells true 1 [.int .i64 t])) (gc : H.get c = some (.cells true 1 [.int .i64 (j : Int)])) (n3 : b3 ≠ c) (n11 : b11 ≠ c)
    (hs : rdS H 3 s = some xs) (hx : xs[k]? = some [.int .i64 op, .int .i64 nn, l']) (hw : rdInts H .i64 w = some av) (ha : av[j]? = some (k : Int)) (hj : j < 1099511627776) (ht : t = 0 ∨ t = 1)
    (e2 : env.val 2 = .pointer (some ⟨b2, 0, none⟩)) (e3 : env.val 3 = .pointer (some ⟨b3, 0, none⟩)) (e9 : env.val 9 = .pointer (some ⟨b9, 0, none⟩)) (e11 : env.val 11 = .pointer (some ⟨b11, 0, none⟩)) (e12 : env.val 12 = .pointer (some ⟨c, 0, none⟩)) (e13 : env.val 13 = .int .i64 k) (e14 : env.val 14 = .int .i64 op) :
    ((t = 0 ∧ many ≤ (j : Int) + 1) → ∃ env', evCode Try.prog call lf 160 (some l) (cAt Try.f7 (pU ++ [1, 0, 0, 1, 0, 1, 0, 1])) env [] H = some (.exit 4, env', [], H.set c (.cells true 1 [.int .i64 ((j + 1 : Nat) : Int)]))) ∧
    (¬ (t = 0 ∧ many ≤ (j : Int) + 1) → ∃ env', evCode Try.prog call lf 160 (some l) (cAt Try.f7 (pU ++ [1, 0, 0, 1, 0, 1, 0, 1])) env [] H = some (.normal, env', [], H.set c (.cells true 1 [.int .i64 ((j + 1 : Nat) : Int)]))) := by
  have hkl := (List.getElem?_eq_some_iff.1 hx).1
  have hal := (List.getElem?_eq_some_iff.1 ha).1
  have ld2 : loadA Try.prog 22 H b2 1 = some s := by simp [loadA, g2]
  have ix := rdS_index hs Try.underlying22 info40 (by simp) (n := (k : Int)) (by omega) (by omega)
  simp only [Int.toNat_natCast] at ix
  have lo := rdS_load0 hs hx (u := .int .i64 op) rfl (t := 37) info37 Try.underlying37 rfl
  have l9 : loadA Try.prog 38 H b9 0 = some w := by simp [loadA, g9, ints_one hw]
  have lw := len_of (H' := H) (P := Try.prog) (t := 38) (rdInts_rd hw) Try.underlying38
  simp only [List.length_map] at lw
  obtain ⟨iy, ly⟩ := rdInts_at hw ha Try.underlying38 info3 rfl Try.underlying3 rfl
  have lc : loadA Try.prog 3 H c 0 = some (.int .i64 (j : Int)) := by simp [loadA, gc]
  have w1 : IntKind.i64.wrap ((j : Int) + 1) = (j : Int) + 1 := wrapI (by omega) (by omega)
  have st := store1i (v := (j : Int) + 1) gc
  have l11 : loadA Try.prog 3 (H.set c (.cells true 1 [.int .i64 ((j : Int) + 1)])) b11 0 = some (.int .i64 t) := by rw [loadA_set n11]; simp [loadA, g11]
  have l3 : loadA Try.prog 3 (H.set c (.cells true 1 [.int .i64 ((j : Int) + 1)])) b3 0 = some (.int .i64 many) := by rw [loadA_set n3]; simp [loadA, g3]
  have lc' : loadA Try.prog 3 (H.set c (.cells true 1 [.int .i64 ((j : Int) + 1)])) c 0 = some (.int .i64 ((j : Int) + 1)) := by simp [loadA, get_set_self]
  rw [show ((j + 1 : Nat) : Int) = (j : Int) + 1 by omega]
  have c2 : ¬ (av.length : Int) ≤ (j : Int) := by omega
  have c2' : ¬ av.length ≤ j := by omega
  rcases ht with rfl | rfl
  · constructor
    · rintro ⟨_, hm⟩
      generalize hr : evCode Try.prog call lf 160 (some l) (cAt Try.f7 (pU ++ [1, 0, 0, 1, 0, 1, 0, 1])) env [] H = out
      simp [pU, Try.f7, e2, e3, e9, e11, e12, e13, e14, ld2, ix, lo, l9, lw, iy, ly, lc, w1, st, l11, l3, lc', c2, c2', hm] at hr
      subst hr
      exact ⟨_, rfl⟩
    · intro hm
      have hm : ¬ many ≤ (j : Int) + 1 := fun h => hm ⟨rfl, h⟩
      generalize hr : evCode Try.prog call lf 160 (some l) (cAt Try.f7 (pU ++ [1, 0, 0, 1, 0, 1, 0, 1])) env [] H = out
      simp [pU, Try.f7, e2, e3, e9, e11, e12, e13, e14, ld2, ix, lo, l9, lw, iy, ly, lc, w1, st, l11, l3, lc', c2, c2', hm] at hr
      subst hr
      exact ⟨_, rfl⟩
  · constructor
    · rintro ⟨h, _⟩
      cases h
    · intro _
      generalize hr : evCode Try.prog call lf 160 (some l) (cAt Try.f7 (pU ++ [1, 0, 0, 1, 0, 1, 0, 1])) env [] H = out
      simp [undef, pU, Try.f7, e2, e3, e9, e11, e12, e13, e14, ld2, ix, lo, l9, lw, iy, ly, lc, w1, st, l11, l3, lc', c2, c2'] at hr
      subst hr
      exact ⟨_, rfl⟩

theorem f7_body2 {call : CallF} {lf : Nat} {env : Env} {H : Heap} {b3 b10 b11 c j l : Nat} {w : Value} {t many : Int} {bs : List (List Value)} {u x : Int}
    (g3 : H.get b3 = some (.cells true 1 [.int .i64 many])) (g10 : H.get b10 = some (.cells true 1 [w])) (hcw : w.cells = #[w] ∧ oneC w = true) (g11 : H.get b11 = some (.cells true 1 [.int .i64 t])) (gc : H.get c = some (.cells true 1 [.int .i64 (j : Int)])) (n3 : b3 ≠ c) (n11 : b11 ≠ c)
    (hs : rdS H 2 w = some bs) (hx : bs[j]? = some [.int .i64 u, .int .i64 x]) (hj : j < 1099511627776) (ht : t = 0 ∨ t = 1)
    (e3 : env.val 3 = .pointer (some ⟨b3, 0, none⟩)) (e10 : env.val 10 = .pointer (some ⟨b10, 0, none⟩)) (e11 : env.val 11 = .pointer (some ⟨b11, 0, none⟩)) (e15 : env.val 15 = .pointer (some ⟨c, 0, none⟩)) (e16 : env.val 16 = .int .i64 u) (e17 : env.val 17 = .int .i64 x) :
    ((t = 0 ∧ many ≤ (j : Int) + 1) → ∃ env', evCode Try.prog call lf 160 (some l) (cAt Try.f7 (pU ++ [1, 0, 0, 1, 1, 1, 0, 1, 0, 1])) env [] H = some (.exit 6, env', [], H.set c (.cells true 1 [.int .i64 ((j + 1 : Nat) : Int)]))) ∧
    (¬ (t = 0 ∧ many ≤ (j : Int) + 1) → ∃ env', evCode Try.prog call lf 160 (some l) (cAt Try.f7 (pU ++ [1, 0, 0, 1, 1, 1, 0, 1, 0, 1])) env [] H = some (.normal, env', [], H.set c (.cells true 1 [.int .i64 ((j + 1 : Nat) : Int)]))) := by
  have hkl := (List.getElem?_eq_some_iff.1 hx).1
  have ix := rdS_index hs Try.underlying52 info54 size54 (n := (j : Int)) (by omega) (by omega)
  simp only [Int.toNat_natCast] at ix
  have i0 : indexAddrA Try.prog 54 (.pointer (some ⟨blk w, offs w + j * 2, none⟩)) 0 = some (.pointer (some ⟨blk w, offs w + j * 2, none⟩)) := by
    simp [indexAddrA, Try.underlying54]
  have i1 : indexAddrA Try.prog 54 (.pointer (some ⟨blk w, offs w + j * 2, none⟩)) 1 = some (.pointer (some ⟨blk w, offs w + j * 2 + 1, none⟩)) := by
    simp [indexAddrA, Try.underlying54]
  have l0 := rdS_load0 hs hx (u := .int .i64 u) rfl (t := 3) info3 Try.underlying3 rfl
  have l1 := rdS_load hs hx (k := 1) (u := .int .i64 x) rfl info3 Try.underlying3 (t := 3) rfl
  have l10 : loadA Try.prog 52 H b10 0 = some w := by simp [loadA, g10, hcw]
  have lw := len_of (H' := H) (P := Try.prog) (t := 52) hs Try.underlying52
  have lc : loadA Try.prog 3 H c 0 = some (.int .i64 (j : Int)) := by simp [loadA, gc]
  have w1 : IntKind.i64.wrap ((j : Int) + 1) = (j : Int) + 1 := wrapI (by omega) (by omega)
  have st := store1i (v := (j : Int) + 1) gc
  have l11 : loadA Try.prog 3 (H.set c (.cells true 1 [.int .i64 ((j : Int) + 1)])) b11 0 = some (.int .i64 t) := by rw [loadA_set n11]; simp [loadA, g11]
  have l3 : loadA Try.prog 3 (H.set c (.cells true 1 [.int .i64 ((j : Int) + 1)])) b3 0 = some (.int .i64 many) := by rw [loadA_set n3]; simp [loadA, g3]
  have lc' : loadA Try.prog 3 (H.set c (.cells true 1 [.int .i64 ((j : Int) + 1)])) c 0 = some (.int .i64 ((j : Int) + 1)) := by simp [loadA, get_set_self]
  rw [show ((j + 1 : Nat) : Int) = (j : Int) + 1 by omega]
  have c2 : ¬ (bs.length : Int) ≤ (j : Int) := by omega
  have c2' : ¬ bs.length ≤ j := by omega
  rcases ht with rfl | rfl
  · constructor
    · rintro ⟨_, hm⟩
      generalize hr : evCode Try.prog call lf 160 (some l) (cAt Try.f7 (pU ++ [1, 0, 0, 1, 1, 1, 0, 1, 0, 1])) env [] H = out
      simp [pU, Try.f7, e3, e10, e11, e15, e16, e17, ix, i0, i1, l0, l1, l10, lw, lc, w1, st, l11, l3, lc', c2, c2', hm] at hr
      subst hr
      exact ⟨_, rfl⟩
    · intro hm
      have hm : ¬ many ≤ (j : Int) + 1 := fun h => hm ⟨rfl, h⟩
      generalize hr : evCode Try.prog call lf 160 (some l) (cAt Try.f7 (pU ++ [1, 0, 0, 1, 1, 1, 0, 1, 0, 1])) env [] H = out
      simp [pU, Try.f7, e3, e10, e11, e15, e16, e17, ix, i0, i1, l0, l1, l10, lw, lc, w1, st, l11, l3, lc', c2, c2', hm] at hr
      subst hr
      exact ⟨_, rfl⟩
  · constructor
    · rintro ⟨h, _⟩
      cases h
    · intro _
      generalize hr : evCode Try.prog call lf 160 (some l) (cAt Try.f7 (pU ++ [1, 0, 0, 1, 1, 1, 0, 1, 0, 1])) env [] H = out
      simp [undef, pU, Try.f7, e3, e10, e11, e15, e16, e17, ix, i0, i1, l0, l1, l10, lw, lc, w1, st, l11, l3, lc', c2, c2'] at hr
      subst hr
      exact ⟨_, rfl⟩
end Go.Proofs.Ytpopkajkekceiaa

namespace Go.Proofs.Ytpopkajkekceiaa
open Go Go.Abs
set_option maxRecDepth 100000
set_option linter.unusedSimpArgs false
set_option linter.unusedVariables false

/-! ### FunOrders: rounds -/
/-- Between two rounds: the heap ahead of the range is as it was; the counter tells how many rounds there were. -/
structure RI (H0 : Heap) (c d l : Nat) (lo : AObj) (j : Nat) (H : Heap) : Prop where
  k : Kept H0 H none
  gc : H.get c = some (.cells true 1 [.int .i64 (j : Int)])
  gd : H.get d = some .defs
  gl : H.get l = some lo
theorem RI.setNew {H0 H : Heap} {c d l j : Nat} {lo : AObj} (h : RI H0 c d l lo j H) (z o : AObj) : RI H0 c d l lo j ((H.push z).set H.next o) := by
  have k : ∀ {b ob}, H.get b = some ob → ((H.push z).set H.next o).get b = some ob := fun hb => by
    have := Nat.ne_of_lt (h.k.wf.lt hb)
    rw [get_set_ne this, get_push_ne this]; exact hb
  exact ⟨(h.k.push z).set h.k.le (by simp) o, k h.gc, k h.gd, k h.gl⟩

noncomputable def loopA (E : Env) (st : LoopState) (pd : Option Code) : AObj := .loop { env := E, params := #[55, 56], assign := cAt Try.f7 (pU ++ [1, 0, 0, 1, 0, 1, 0, 0]), body := cAt Try.f7 (pU ++ [1, 0, 0, 1, 0, 1, 0, 1]), state := st, pending := pd, nt := 160, nf := Try.prog.funcs.size }
noncomputable def loopB (E : Env) (st : LoopState) (pd : Option Code) : AObj := .loop { env := E, params := #[89, 90], assign := cAt Try.f7 (pU ++ [1, 0, 0, 1, 1, 1, 0, 1, 0, 0]), body := cAt Try.f7 (pU ++ [1, 0, 0, 1, 1, 1, 0, 1, 0, 1]), state := st, pending := pd, nt := 160, nf := Try.prog.funcs.size }

/-- What stays the same while the ranges go. -/
structure OFix (H0 : Heap) (f : FunD) (b2 b3 b9 b10 b11 : Nat) (s wa wb : Value) (xs : List (List Value)) (av : List Int) (bs : List (Int × Int)) (t many : Int) : Prop where
  wf : H0.Wf
  g2 : H0.get b2 = some (.cells true 2 [.int .i64 f.params, s])
  g3 : H0.get b3 = some (.cells true 1 [.int .i64 many])
  g9 : H0.get b9 = some (.cells true 1 [wa])
  g10 : H0.get b10 = some (.cells true 1 [wb])
  g11 : H0.get b11 = some (.cells true 1 [.int .i64 t])
  ns : nodesAt H0 s xs f.nodes
  ra : rdInts H0 .i64 wa = some av
  rb : rdS H0 2 wb = some (bs.map pairC)
  ht : t = 0 ∨ t = 1

theorem RI.done {H0 H : Heap} {c d l j m : Nat} {lo lo1 lo2 : AObj} (hI : RI H0 c d l lo j H) (hc : H0.next ≤ c) (hcd : c < d) (hdl : d < l) :
    RI H0 c d l lo2 m (((H.set l lo1).set c (.cells true 1 [.int .i64 (m : Int)])).set l lo2) := by
  have hl := hI.k.wf.lt hI.gl
  have hcl := hI.k.wf.lt hI.gc
  refine ⟨((hI.k.set (by omega) hl _).set hc (by simpa using hcl) _).set (by omega) (by simpa using hl) _, ?_, ?_, get_set_self _ _ _⟩
  · rw [get_set_ne (by omega), get_set_self]
  · rw [get_set_ne (by omega), get_set_ne (by omega), get_set_ne (by omega)]; exact hI.gd

theorem f7_round1 {call : CallF} {lf : Nat} {H0 H : Heap} {f : FunD} {b2 b3 b9 b10 b11 c d l j k : Nat} {s wa wb : Value} {xs : List (List Value)} {av : List Int} {bs : List (Int × Int)} {t many : Int} {x : NodeD} {E : Env}
    (F : OFix H0 f b2 b3 b9 b10 b11 s wa wb xs av bs t many) (hI : RI H0 c d l (loopA E .ready none) j H) (hc : H0.next ≤ c) (hcd : c < d) (hdl : d < l) (hx : f.nodes[k]? = some x) (ha : av[j]? = some (k : Int)) (hj : j < 1099511627776)
    (e2 : E.val 2 = .pointer (some ⟨b2, 0, none⟩)) (e3 : E.val 3 = .pointer (some ⟨b3, 0, none⟩)) (e9 : E.val 9 = .pointer (some ⟨b9, 0, none⟩)) (e11 : E.val 11 = .pointer (some ⟨b11, 0, none⟩)) (e12 : E.val 12 = .pointer (some ⟨c, 0, none⟩)) :
    ((t = 0 ∧ many ≤ (j : Int) + 1) → ∃ H', evRound Try.prog call lf l [.int .i64 (k : Int), .int .i64 x.op] H = some (.ret (.bool false), H') ∧ RI H0 c d l (loopA E .done (some (.exit 4))) (j + 1) H') ∧
    (¬ (t = 0 ∧ many ≤ (j : Int) + 1) → ∃ H', evRound Try.prog call lf l [.int .i64 (k : Int), .int .i64 x.op] H = some (.ret (.bool true), H') ∧ RI H0 c d l (loopA E .ready none) (j + 1) H') := by
  obtain ⟨env1, r1, v2, v3, v9, v11, v12, v13, v14⟩ := f7_assign1 (call := call) (lf := lf) (l := l) (E := E) (H := H) (k := (k : Int)) (op := x.op)
  have hlt := hI.k.wf.lt hI.gl
  have kb := hI.k.set (c := l) (by omega) hlt (loopA E .busy none)
  have up : ∀ {b ob}, H0.get b = some ob → (H.set l (loopA E .busy none)).get b = some ob := fun hb => kb.of_get F.wf hb (by simp)
  have n3 : b3 ≠ c := by have := F.wf.lt F.g3; omega
  have n11 : b11 ≠ c := by have := F.wf.lt F.g11; omega
  have xb := kb.ext F.wf
  obtain ⟨l', hxs, hl'⟩ := F.ns.2.2 k x hx
  obtain ⟨g1, g2⟩ := f7_body1 (call := call) (lf := lf) (env := env1) (H := H.set l (loopA E .busy none)) (c := c) (j := j) (l := l) (up F.g2) (up F.g3) (up F.g9) (up F.g11) (by rw [get_set_ne (by omega)]; exact hI.gc) n3 n11 (rdS_ext xb F.ns.1) hxs (rdInts_ext xb F.ra) ha hj F.ht (v2.trans e2) (v3.trans e3) (v9.trans e9) (v11.trans e11) (v12.trans e12) v13 v14
  have gl2 : ((H.set l (loopA E .busy none)).set c (.cells true 1 [.int .i64 ((j + 1 : Nat) : Int)])).get l = some (loopA E .busy none) := by rw [get_set_ne (by omega), get_set_self]
  have hev : ∀ {o : Out}, evCode Try.prog call lf 160 (some l) (cAt Try.f7 (pU ++ [1, 0, 0, 1, 0, 1, 0, 1])) env1 [] (H.set l (loopA E .busy none)) = some o → evRound Try.prog call lf l [.int .i64 (k : Int), .int .i64 x.op] H = roundEnd l (some o) := fun hb => by
    unfold evRound
    rw [show H.get l = some (.loop { env := E, params := #[55, 56], assign := cAt Try.f7 (pU ++ [1, 0, 0, 1, 0, 1, 0, 0]), body := cAt Try.f7 (pU ++ [1, 0, 0, 1, 0, 1, 0, 1]), state := .ready, pending := none, nt := 160, nf := Try.prog.funcs.size }) from hI.gl]
    simp only [isReady]
    rw [if_pos ⟨trivial, by rfl, trivial⟩]
    rw [show evCode Try.prog call lf 160 (some l) (cAt Try.f7 (pU ++ [1, 0, 0, 1, 0, 1, 0, 0])) (bindA [55, 56] [.int .i64 (k : Int), .int .i64 x.op] E) [] H = _ from r1]
    simp only
    rw [show H.get l = some (.loop { env := E, params := #[55, 56], assign := cAt Try.f7 (pU ++ [1, 0, 0, 1, 0, 1, 0, 0]), body := cAt Try.f7 (pU ++ [1, 0, 0, 1, 0, 1, 0, 1]), state := .ready, pending := none, nt := 160, nf := Try.prog.funcs.size }) from hI.gl]
    simp only [if_true]
    rw [show evCode Try.prog call lf 160 (some l) (cAt Try.f7 (pU ++ [1, 0, 0, 1, 0, 1, 0, 1])) env1 [] (H.set l (.loop { env := E, params := #[55, 56], assign := cAt Try.f7 (pU ++ [1, 0, 0, 1, 0, 1, 0, 0]), body := cAt Try.f7 (pU ++ [1, 0, 0, 1, 0, 1, 0, 1]), state := .busy, pending := none, nt := 160, nf := Try.prog.funcs.size })) = _ from hb]
  constructor
  · intro hst
    obtain ⟨env2, r2⟩ := g1 hst
    refine ⟨_, (hev r2).trans ?_, hI.done (lo1 := loopA E .busy none) hc hcd hdl⟩
    · simp only [roundEnd]
      rw [show ((H.set l (loopA E .busy none)).set c (.cells true 1 [.int .i64 ((j + 1 : Nat) : Int)])).get l = some (.loop { env := E, params := #[55, 56], assign := cAt Try.f7 (pU ++ [1, 0, 0, 1, 0, 1, 0, 0]), body := cAt Try.f7 (pU ++ [1, 0, 0, 1, 0, 1, 0, 1]), state := .busy, pending := none, nt := 160, nf := Try.prog.funcs.size }) from gl2]
      rfl
  · intro hst
    obtain ⟨env2, r2⟩ := g2 hst
    refine ⟨_, (hev r2).trans ?_, hI.done (lo1 := loopA E .busy none) hc hcd hdl⟩
    · simp only [roundEnd]
      rw [show ((H.set l (loopA E .busy none)).set c (.cells true 1 [.int .i64 ((j + 1 : Nat) : Int)])).get l = some (.loop { env := E, params := #[55, 56], assign := cAt Try.f7 (pU ++ [1, 0, 0, 1, 0, 1, 0, 0]), body := cAt Try.f7 (pU ++ [1, 0, 0, 1, 0, 1, 0, 1]), state := .busy, pending := none, nt := 160, nf := Try.prog.funcs.size }) from gl2]
      rfl

theorem f7_round2 {call : CallF} {lf : Nat} {H0 H : Heap} {f : FunD} {b2 b3 b9 b10 b11 c d l j : Nat} {s wa wb : Value} {xs : List (List Value)} {av : List Int} {bs : List (Int × Int)} {t many : Int} {y : Int × Int} {E : Env}
    (F : OFix H0 f b2 b3 b9 b10 b11 s wa wb xs av bs t many) (hI : RI H0 c d l (loopB E .ready none) j H) (hc : H0.next ≤ c) (hcd : c < d) (hdl : d < l) (hx : bs[j]? = some y) (hj : j < 1099511627776)
    (e3 : E.val 3 = .pointer (some ⟨b3, 0, none⟩)) (e10 : E.val 10 = .pointer (some ⟨b10, 0, none⟩)) (e11 : E.val 11 = .pointer (some ⟨b11, 0, none⟩)) (e15 : E.val 15 = .pointer (some ⟨c, 0, none⟩)) :
    ((t = 0 ∧ many ≤ (j : Int) + 1) → ∃ H', evRound Try.prog call lf l [.int .i64 y.1, .int .i64 y.2] H = some (.ret (.bool false), H') ∧ RI H0 c d l (loopB E .done (some (.exit 6))) (j + 1) H') ∧
    (¬ (t = 0 ∧ many ≤ (j : Int) + 1) → ∃ H', evRound Try.prog call lf l [.int .i64 y.1, .int .i64 y.2] H = some (.ret (.bool true), H') ∧ RI H0 c d l (loopB E .ready none) (j + 1) H') := by
  obtain ⟨env1, r1, v3, v10, v11, v15, v16, v17⟩ := f7_assign2 (call := call) (lf := lf) (l := l) (E := E) (H := H) (k := y.1) (op := y.2)
  have hlt := hI.k.wf.lt hI.gl
  have kb := hI.k.set (c := l) (by omega) hlt (loopB E .busy none)
  have up : ∀ {b ob}, H0.get b = some ob → (H.set l (loopB E .busy none)).get b = some ob := fun hb => kb.of_get F.wf hb (by simp)
  have n3 : b3 ≠ c := by have := F.wf.lt F.g3; omega
  have n11 : b11 ≠ c := by have := F.wf.lt F.g11; omega
  have xb := kb.ext F.wf
  obtain ⟨o1, o2, _, _⟩ := rdS_one F.rb
  obtain ⟨g1, g2⟩ := f7_body2 (call := call) (lf := lf) (env := env1) (H := H.set l (loopB E .busy none)) (c := c) (j := j) (l := l) (up F.g3) (up F.g10) ⟨o1, o2⟩ (up F.g11) (by rw [get_set_ne (by omega)]; exact hI.gc) n3 n11 (rdS_ext xb F.rb) (by rw [List.getElem?_map, hx]; rfl) hj F.ht (v3.trans e3) (v10.trans e10) (v11.trans e11) (v15.trans e15) v16 v17
  have gl2 : ((H.set l (loopB E .busy none)).set c (.cells true 1 [.int .i64 ((j + 1 : Nat) : Int)])).get l = some (loopB E .busy none) := by rw [get_set_ne (by omega), get_set_self]
  have hev : ∀ {o : Out}, evCode Try.prog call lf 160 (some l) (cAt Try.f7 (pU ++ [1, 0, 0, 1, 1, 1, 0, 1, 0, 1])) env1 [] (H.set l (loopB E .busy none)) = some o → evRound Try.prog call lf l [.int .i64 y.1, .int .i64 y.2] H = roundEnd l (some o) := fun hb => by
    unfold evRound
    rw [show H.get l = some (.loop { env := E, params := #[89, 90], assign := cAt Try.f7 (pU ++ [1, 0, 0, 1, 1, 1, 0, 1, 0, 0]), body := cAt Try.f7 (pU ++ [1, 0, 0, 1, 1, 1, 0, 1, 0, 1]), state := .ready, pending := none, nt := 160, nf := Try.prog.funcs.size }) from hI.gl]
    simp only [isReady]
    rw [if_pos ⟨trivial, by rfl, trivial⟩]
    rw [show evCode Try.prog call lf 160 (some l) (cAt Try.f7 (pU ++ [1, 0, 0, 1, 1, 1, 0, 1, 0, 0])) (bindA [89, 90] [.int .i64 y.1, .int .i64 y.2] E) [] H = _ from r1]
    simp only
    rw [show H.get l = some (.loop { env := E, params := #[89, 90], assign := cAt Try.f7 (pU ++ [1, 0, 0, 1, 1, 1, 0, 1, 0, 0]), body := cAt Try.f7 (pU ++ [1, 0, 0, 1, 1, 1, 0, 1, 0, 1]), state := .ready, pending := none, nt := 160, nf := Try.prog.funcs.size }) from hI.gl]
    simp only [if_true]
    rw [show evCode Try.prog call lf 160 (some l) (cAt Try.f7 (pU ++ [1, 0, 0, 1, 1, 1, 0, 1, 0, 1])) env1 [] (H.set l (.loop { env := E, params := #[89, 90], assign := cAt Try.f7 (pU ++ [1, 0, 0, 1, 1, 1, 0, 1, 0, 0]), body := cAt Try.f7 (pU ++ [1, 0, 0, 1, 1, 1, 0, 1, 0, 1]), state := .busy, pending := none, nt := 160, nf := Try.prog.funcs.size })) = _ from hb]
  constructor
  · intro hst
    obtain ⟨env2, r2⟩ := g1 hst
    refine ⟨_, (hev r2).trans ?_, hI.done (lo1 := loopB E .busy none) hc hcd hdl⟩
    · simp only [roundEnd]
      rw [show ((H.set l (loopB E .busy none)).set c (.cells true 1 [.int .i64 ((j + 1 : Nat) : Int)])).get l = some (.loop { env := E, params := #[89, 90], assign := cAt Try.f7 (pU ++ [1, 0, 0, 1, 1, 1, 0, 1, 0, 0]), body := cAt Try.f7 (pU ++ [1, 0, 0, 1, 1, 1, 0, 1, 0, 1]), state := .busy, pending := none, nt := 160, nf := Try.prog.funcs.size }) from gl2]
      rfl
  · intro hst
    obtain ⟨env2, r2⟩ := g2 hst
    refine ⟨_, (hev r2).trans ?_, hI.done (lo1 := loopB E .busy none) hc hcd hdl⟩
    · simp only [roundEnd]
      rw [show ((H.set l (loopB E .busy none)).set c (.cells true 1 [.int .i64 ((j + 1 : Nat) : Int)])).get l = some (.loop { env := E, params := #[89, 90], assign := cAt Try.f7 (pU ++ [1, 0, 0, 1, 1, 1, 0, 1, 0, 0]), body := cAt Try.f7 (pU ++ [1, 0, 0, 1, 1, 1, 0, 1, 0, 1]), state := .busy, pending := none, nt := 160, nf := Try.prog.funcs.size }) from gl2]
      rfl
end Go.Proofs.Ytpopkajkekceiaa

namespace Go.Proofs.Ytpopkajkekceiaa
open Go Go.Abs
set_option maxRecDepth 100000
set_option linter.unusedSimpArgs false
set_option linter.unusedVariables false

/-- Where a range stops: in the first turn behind 'many' rounds, at least one; never in the second one. -/
def stopL (t many : Int) : Nat := if t = 0 then (max 1 many).toNat else 0
/-- How many rounds a range does. -/
def cntL (t many : Int) (n : Nat) : Nat := if t = 0 then min n (max 1 many).toNat else n
theorem cnt_all {t many : Int} {n : Nat} (h : stopL t many = 0 ∨ n < stopL t many) : cntL t many n = n := by
  unfold stopL at h
  unfold cntL
  by_cases h0 : t = 0
  · rw [if_pos h0] at h ⊢
    have : 0 < (max 1 many).toNat := by omega
    omega
  · rw [if_neg h0]
theorem cnt_stop {t many : Int} {n : Nat} (h : stopL t many ≠ 0) (h2 : stopL t many ≤ n) : cntL t many n = stopL t many := by
  unfold stopL at h h2 ⊢
  unfold cntL
  by_cases h0 : t = 0
  · rw [if_pos h0] at h h2 ⊢
    rw [if_pos h0]
    omega
  · rw [if_neg h0] at h
    exact absurd rfl h
theorem stop_no {t many : Int} {j : Nat} (hj : t = 0 → j < stopL t many) (h : j + 1 ≠ stopL t many) : ¬ (t = 0 ∧ many ≤ (j : Int) + 1) := by
  rintro ⟨h0, h1⟩
  have := hj h0
  unfold stopL at this h
  rw [if_pos h0] at this h
  omega
theorem stop_yes {t many : Int} {j : Nat} (h : j + 1 = stopL t many) : t = 0 ∧ many ≤ (j : Int) + 1 := by
  unfold stopL at h
  by_cases h0 : t = 0
  · rw [if_pos h0] at h
    exact ⟨h0, by omega⟩
  · rw [if_neg h0] at h
    omega
theorem stop_pos {t many : Int} (h : t = 0) : 0 < stopL t many := by
  unfold stopL
  rw [if_pos h]; omega
theorem pairs_two (bs : List (Int × Int)) : ∀ x ∈ bs.map pairC, ∃ u w : Int, x = [.int .i64 u, .int .i64 w] := by
  intro x hx
  obtain ⟨y, _, rfl⟩ := List.mem_map.1 hx
  exact ⟨y.1, y.2, rfl⟩

def ordRows (f : FunD) (ord : List Nat) : List (Int × Int) := ord.map fun (k : Nat) => ((k : Int), opOf f k)
theorem ordRow_at {f : FunD} {ord : List Nat} {j : Nat} {k op : Int} (h : ((ordRows f ord).map pairC)[j]? = some [.int .i64 k, .int .i64 op]) : ∃ (kk : Nat), ord[j]? = some kk ∧ (kk : Int) = k ∧ opOf f kk = op := by
  unfold ordRows at h
  rw [List.map_map, List.getElem?_map] at h
  obtain ⟨kk, hk, he⟩ := Option.map_eq_some_iff.1 h
  simp only [Function.comp, pairC, List.cons.injEq, Value.int.injEq, true_and, and_true] at he
  exact ⟨kk, hk, he.1, he.2⟩

theorem endA {E : Env} {ds : List ADef} {H0 H : Heap} {c d l n : Nat} {st : LoopState} {pd : Option Code} {lo : AObj} (hI : RI H0 c d l (loopA E st pd) n H) (hc : H0.next ≤ c) (hcd : c < d) (hdl : d < l) (hs : st = .ready ∧ pd = none ∨ st = .done ∧ pd = some (.exit 4)) :
    ∃ H' x, rangeEnd l E ds (some (CRes.ret (.tuple #[]), H)) = some (x, E, ds, H') ∧ (x = .normal ∨ x = .exit 4) ∧ Kept H0 H' none ∧ H'.get c = some (.cells true 1 [.int .i64 (n : Int)]) ∧ H'.get d = some .defs := by
  have hl := hI.k.wf.lt hI.gl
  have hk : ∀ o, Kept H0 (H.set l o) none := fun o => hI.k.set (by omega) hl o
  rcases hs with ⟨rfl, rfl⟩ | ⟨rfl, rfl⟩
  · refine ⟨H.set l (loopA E .exhausted none), .normal, ?_, .inl rfl, hk _, by rw [get_set_ne (by omega)]; exact hI.gc, by rw [get_set_ne (by omega)]; exact hI.gd⟩
    simp only [rangeEnd]
    rw [show H.get l = some (loopA E .ready none) from hI.gl]
    rfl
  · refine ⟨H.set l (loopA E .exhausted (some (.exit 4))), .exit 4, ?_, .inr rfl, hk _, by rw [get_set_ne (by omega)]; exact hI.gc, by rw [get_set_ne (by omega)]; exact hI.gd⟩
    simp only [rangeEnd]
    rw [show H.get l = some (loopA E .done (some (.exit 4))) from hI.gl]
    rfl

theorem rangeA {call c5 c0 : CallF} {lf : Nat} {E : Env} {ds : List ADef} {H0 Hc : Heap} {f : FunD} {b2 b3 b9 b10 b11 c bt lo : Nat} {s wa wb wo : Value} {xs : List (List Value)} {av : List Int} {bs : List (Int × Int)} {t many : Int} {ord : List Nat}
    (F : OFix H0 f b2 b3 b9 b10 b11 s wa wb xs av bs t many) (hk : Kept H0 Hc none) (gc : Hc.get c = some (.cells true 1 [.int .i64 0])) (hc : H0.next ≤ c) (hcl : c < Hc.next) (gt : H0.get bt = some (.cells true 1 [wo])) (hg : growP lo H0 (ordRows f ord) wo) (hn : (ordRows f ord).length < 1000) (hlf : (ordRows f ord).length < lf) (hav : av = natsL ord) (hol : ∀ k ∈ ord, k < f.nodes.length)
    (hcall : ∀ args H, call (.fn 52 args) H = evFn Try.prog c5 lf 52 args H) (hround : ∀ l args H, c5 (.round l args) H = evRound Try.prog c0 lf l args H)
    (e2 : E.val 2 = .pointer (some ⟨b2, 0, none⟩)) (e3 : E.val 3 = .pointer (some ⟨b3, 0, none⟩)) (e9 : E.val 9 = .pointer (some ⟨b9, 0, none⟩)) (e11 : E.val 11 = .pointer (some ⟨b11, 0, none⟩)) (e12 : E.val 12 = .pointer (some ⟨c, 0, none⟩)) (em : E.val 54 = .func (.func 52) #[] #[.pointer (some ⟨bt, 0, none⟩)]) :
    ∃ H', evCode Try.prog call lf 160 none (cAt Try.f7 (pU ++ [1, 0, 0, 1, 0, 1])) E ds Hc = some (.normal, E, .mark Hc.next :: ds, H') ∧ Kept H0 H' none ∧ H'.get c = some (.cells true 1 [.int .i64 ((cntL t many (ordRows f ord).length : Nat) : Int)]) ∧ H'.get Hc.next = some .defs := by
  have hw5 : ((Hc.push .defs).push (loopA E .ready none)).Wf := (hk.wf.push _).push _
  have hk5 : Kept H0 ((Hc.push .defs).push (loopA E .ready none)) none := (hk.push _).push _
  have gl : ((Hc.push .defs).push (loopA E .ready none)).get (Hc.next + 1) = some (loopA E .ready none) := get_push_self (Hc.push .defs) _
  have gd : ((Hc.push .defs).push (loopA E .ready none)).get Hc.next = some .defs := by rw [get_push_ne (by simp)]; exact get_push_self _ _
  have gc5 : ((Hc.push .defs).push (loopA E .ready none)).get c = some (.cells true 1 [.int .i64 ((0 : Nat) : Int)]) := by rw [get_push_ne (by simp; omega), get_push_ne (by omega)]; exact gc
  have hI0 : RI H0 c Hc.next (Hc.next + 1) (loopA E .ready none) 0 ((Hc.push .defs).push (loopA E .ready none)) := ⟨hk5, gc5, gd, gl⟩
  have fin : ∀ {H6 : Heap} {st : LoopState} {pd : Option Code} {n : Nat}, c5 = c5 → evFn Try.prog c5 lf 52 [.func (.yield (Hc.next + 1)) #[] #[], .pointer (some ⟨bt, 0, none⟩)] ((Hc.push .defs).push (loopA E .ready none)) = some (.ret (.tuple #[]), H6) → RI H0 c Hc.next (Hc.next + 1) (loopA E st pd) n H6 → (st = .ready ∧ pd = none ∨ st = .done ∧ pd = some (.exit 4)) → n = cntL t many (ordRows f ord).length →
      ∃ H', evCode Try.prog call lf 160 none (cAt Try.f7 (pU ++ [1, 0, 0, 1, 0, 1])) E ds Hc = some (.normal, E, .mark Hc.next :: ds, H') ∧ Kept H0 H' none ∧ H'.get c = some (.cells true 1 [.int .i64 ((cntL t many (ordRows f ord).length : Nat) : Int)]) ∧ H'.get Hc.next = some .defs := by
    intro H6 st pd n _ hr hI hs hcnt
    obtain ⟨H', x, r1, hx, r2, r3, r4⟩ := endA (ds := .mark Hc.next :: ds) (lo := .defs) hI hc hcl (Nat.lt_succ_self _) hs
    refine ⟨H', ?_, r2, by rw [← hcnt]; exact r3, r4⟩
    rw [show cAt Try.f7 (pU ++ [1, 0, 0, 1, 0, 1]) = .block 4 (.rangeFunc (.tmp 54) #[55, 56] (cAt Try.f7 (pU ++ [1, 0, 0, 1, 0, 1, 0, 0])) (cAt Try.f7 (pU ++ [1, 0, 0, 1, 0, 1, 0, 1]))) from rfl, evCode_block,
      evCode_range (g := 52) (first := #[]) (captured := #[.pointer (some ⟨bt, 0, none⟩)]) (by simp only [evA, em]) (by kernel_rfl), hcall]
    rw [show evFn Try.prog c5 lf 52 ((#[] : Array Value).toList ++ [.func (.yield (Hc.next + 1)) #[] #[]] ++ (#[.pointer (some ⟨bt, 0, none⟩)] : Array Value).toList) ((Hc.push .defs).push (theLoop Try.prog 160 E #[55, 56] (cAt Try.f7 (pU ++ [1, 0, 0, 1, 0, 1, 0, 0])) (cAt Try.f7 (pU ++ [1, 0, 0, 1, 0, 1, 0, 1])))) = _ from hr, r1]
    rcases hx with rfl | rfl <;> simp
  rcases hg with ⟨hnil, rfl⟩ | ⟨br, rfl, gbr, _, hbl⟩
  · have r := go_run_nil (call := c5) (lf := lf) (l := Hc.next + 1) (by omega) (hk5.of_get F.wf gt (by simp))
    refine fin rfl r hI0 (.inl ⟨rfl, rfl⟩) ?_
    rw [show (ordRows f ord).length = 0 by rw [hnil]; rfl]
    unfold cntL
    split <;> omega
  · have gbr5 := hk5.of_get F.wf gbr (by simp)
    have G : GoingS c5 ((ordRows f ord).map pairC) br (Hc.next + 1) (stopL t many) (fun j H => RI H0 c Hc.next (Hc.next + 1) (loopA E .ready none) j H ∧ (t = 0 → j < stopL t many)) (fun H => RI H0 c Hc.next (Hc.next + 1) (loopA E .done (some (.exit 4))) (stopL t many) H) := by
      refine ⟨fun j H h => h.1.k.wf, fun j H z o h => ⟨h.1.setNew z o, h.2⟩, fun j H h => h.1.k.of_get F.wf gbr (by simp), fun j H h => ⟨_, h.1.gl, rfl⟩, ?_, ?_⟩
      · intro j H k op hI hrow hst
        obtain ⟨kk, hkk, hko⟩ := ordRow_at hrow
        obtain ⟨rfl, rfl⟩ := hko
        obtain ⟨x, hxk⟩ : ∃ x, f.nodes[kk]? = some x := ⟨_, List.getElem?_eq_getElem (hol kk (List.mem_of_getElem? hkk))⟩
        have hop : opOf f kk = x.op := by unfold opOf; rw [hxk]
        rw [hop]
        have hjl := (List.getElem?_eq_some_iff.1 hrow).1
        rw [List.length_map] at hjl
        obtain ⟨q1, q2⟩ := f7_round1 (call := c0) (lf := lf) F hI.1 hc hcl (Nat.lt_succ_self _) hxk (by rw [hav]; simp [natsL, hkk]) (by omega) e2 e3 e9 e11 e12
        obtain ⟨H', r, hR⟩ := q2 (stop_no hI.2 hst)
        exact ⟨H', (hround _ _ _).trans r, hR, fun h0 => by have := hI.2 h0; omega⟩
      · intro j H k op hI hrow hst
        obtain ⟨kk, hkk, hko⟩ := ordRow_at hrow
        obtain ⟨rfl, rfl⟩ := hko
        obtain ⟨x, hxk⟩ : ∃ x, f.nodes[kk]? = some x := ⟨_, List.getElem?_eq_getElem (hol kk (List.mem_of_getElem? hkk))⟩
        have hop : opOf f kk = x.op := by unfold opOf; rw [hxk]
        rw [hop]
        have hjl := (List.getElem?_eq_some_iff.1 hrow).1
        rw [List.length_map] at hjl
        obtain ⟨q1, q2⟩ := f7_round1 (call := c0) (lf := lf) F hI.1 hc hcl (Nat.lt_succ_self _) hxk (by rw [hav]; simp [natsL, hkk]) (by omega) e2 e3 e9 e11 e12
        obtain ⟨H', r, hR⟩ := q1 (stop_yes hst)
        rw [hst] at hR
        exact ⟨H', (hround _ _ _).trans r, hR⟩
    have hlen : ((ordRows f ord).map pairC).length = (ordRows f ord).length := by simp
    obtain ⟨H6, r, g1, g2⟩ := go_run (lf := lf) (bt := bt) G (pairs_two _) (by rw [hlen]; omega) (by rw [hlen]; omega) ⟨hI0, stop_pos⟩ (by rw [hlen]; exact hk5.of_get F.wf gt (by simp))
    rw [hlen] at g1 g2
    by_cases hs : stopL t many = 0 ∨ (ordRows f ord).length < stopL t many
    · exact fin rfl r (g1 hs).1 (.inl ⟨rfl, rfl⟩) (cnt_all hs).symm
    · have h0 : stopL t many ≠ 0 := fun h => hs (.inl h)
      have h1 : stopL t many ≤ (ordRows f ord).length := by
        rcases Nat.lt_or_ge (ordRows f ord).length (stopL t many) with h | h
        · exact absurd (.inr h) hs
        · exact h
      exact fin rfl r (g2 h0 h1) (.inr ⟨rfl, rfl⟩) (cnt_stop h0 h1).symm

theorem endB {E : Env} {ds : List ADef} {H0 H : Heap} {c d l n : Nat} {st : LoopState} {pd : Option Code} {lo : AObj} (hI : RI H0 c d l (loopB E st pd) n H) (hc : H0.next ≤ c) (hcd : c < d) (hdl : d < l) (hs : st = .ready ∧ pd = none ∨ st = .done ∧ pd = some (.exit 6)) :
    ∃ H' x, rangeEnd l E ds (some (CRes.ret (.tuple #[]), H)) = some (x, E, ds, H') ∧ (x = .normal ∨ x = .exit 6) ∧ Kept H0 H' none ∧ H'.get c = some (.cells true 1 [.int .i64 (n : Int)]) ∧ H'.get d = some .defs := by
  have hl := hI.k.wf.lt hI.gl
  have hk : ∀ o, Kept H0 (H.set l o) none := fun o => hI.k.set (by omega) hl o
  rcases hs with ⟨rfl, rfl⟩ | ⟨rfl, rfl⟩
  · refine ⟨H.set l (loopB E .exhausted none), .normal, ?_, .inl rfl, hk _, by rw [get_set_ne (by omega)]; exact hI.gc, by rw [get_set_ne (by omega)]; exact hI.gd⟩
    simp only [rangeEnd]
    rw [show H.get l = some (loopB E .ready none) from hI.gl]
    rfl
  · refine ⟨H.set l (loopB E .exhausted (some (.exit 6))), .exit 6, ?_, .inr rfl, hk _, by rw [get_set_ne (by omega)]; exact hI.gc, by rw [get_set_ne (by omega)]; exact hI.gd⟩
    simp only [rangeEnd]
    rw [show H.get l = some (loopB E .done (some (.exit 6))) from hI.gl]
    rfl

theorem rangeB {call c5 c0 : CallF} {lf : Nat} {E : Env} {ds : List ADef} {H0 Hc : Heap} {f : FunD} {b2 b3 b9 b10 b11 c bt lo : Nat} {s wa wb wo : Value} {xs : List (List Value)} {av : List Int} {bs : List (Int × Int)} {t many : Int}
    (F : OFix H0 f b2 b3 b9 b10 b11 s wa wb xs av bs t many) (hk : Kept H0 Hc none) (gc : Hc.get c = some (.cells true 1 [.int .i64 0])) (hc : H0.next ≤ c) (hcl : c < Hc.next) (gt : H0.get bt = some (.cells true 1 [wo])) (hg : growP lo H0 bs wo) (hn : bs.length < 1000) (hlf : bs.length < lf)
    (hcall : ∀ args H, call (.fn 54 args) H = evFn Try.prog c5 lf 54 args H) (hround : ∀ l args H, c5 (.round l args) H = evRound Try.prog c0 lf l args H)
    (e3 : E.val 3 = .pointer (some ⟨b3, 0, none⟩)) (e10 : E.val 10 = .pointer (some ⟨b10, 0, none⟩)) (e11 : E.val 11 = .pointer (some ⟨b11, 0, none⟩)) (e15 : E.val 15 = .pointer (some ⟨c, 0, none⟩)) (em : E.val 88 = .func (.func 54) #[] #[.pointer (some ⟨bt, 0, none⟩)]) :
    ∃ H', evCode Try.prog call lf 160 none (cAt Try.f7 (pU ++ [1, 0, 0, 1, 1, 1, 0, 1])) E ds Hc = some (.normal, E, .mark Hc.next :: ds, H') ∧ Kept H0 H' none ∧ H'.get c = some (.cells true 1 [.int .i64 ((cntL t many bs.length : Nat) : Int)]) ∧ H'.get Hc.next = some .defs := by
  have hw5 : ((Hc.push .defs).push (loopB E .ready none)).Wf := (hk.wf.push _).push _
  have hk5 : Kept H0 ((Hc.push .defs).push (loopB E .ready none)) none := (hk.push _).push _
  have gl : ((Hc.push .defs).push (loopB E .ready none)).get (Hc.next + 1) = some (loopB E .ready none) := get_push_self (Hc.push .defs) _
  have gd : ((Hc.push .defs).push (loopB E .ready none)).get Hc.next = some .defs := by rw [get_push_ne (by simp)]; exact get_push_self _ _
  have gc5 : ((Hc.push .defs).push (loopB E .ready none)).get c = some (.cells true 1 [.int .i64 ((0 : Nat) : Int)]) := by rw [get_push_ne (by simp; omega), get_push_ne (by omega)]; exact gc
  have hI0 : RI H0 c Hc.next (Hc.next + 1) (loopB E .ready none) 0 ((Hc.push .defs).push (loopB E .ready none)) := ⟨hk5, gc5, gd, gl⟩
  have fin : ∀ {H6 : Heap} {st : LoopState} {pd : Option Code} {n : Nat}, c5 = c5 → evFn Try.prog c5 lf 54 [.func (.yield (Hc.next + 1)) #[] #[], .pointer (some ⟨bt, 0, none⟩)] ((Hc.push .defs).push (loopB E .ready none)) = some (.ret (.tuple #[]), H6) → RI H0 c Hc.next (Hc.next + 1) (loopB E st pd) n H6 → (st = .ready ∧ pd = none ∨ st = .done ∧ pd = some (.exit 6)) → n = cntL t many bs.length →
      ∃ H', evCode Try.prog call lf 160 none (cAt Try.f7 (pU ++ [1, 0, 0, 1, 1, 1, 0, 1])) E ds Hc = some (.normal, E, .mark Hc.next :: ds, H') ∧ Kept H0 H' none ∧ H'.get c = some (.cells true 1 [.int .i64 ((cntL t many bs.length : Nat) : Int)]) ∧ H'.get Hc.next = some .defs := by
    intro H6 st pd n _ hr hI hs hcnt
    obtain ⟨H', x, r1, hx, r2, r3, r4⟩ := endB (ds := .mark Hc.next :: ds) (lo := .defs) hI hc hcl (Nat.lt_succ_self _) hs
    refine ⟨H', ?_, r2, by rw [← hcnt]; exact r3, r4⟩
    rw [show cAt Try.f7 (pU ++ [1, 0, 0, 1, 1, 1, 0, 1]) = .block 6 (.rangeFunc (.tmp 88) #[89, 90] (cAt Try.f7 (pU ++ [1, 0, 0, 1, 1, 1, 0, 1, 0, 0])) (cAt Try.f7 (pU ++ [1, 0, 0, 1, 1, 1, 0, 1, 0, 1]))) from rfl, evCode_block,
      evCode_range (g := 54) (first := #[]) (captured := #[.pointer (some ⟨bt, 0, none⟩)]) (by simp only [evA, em]) (by kernel_rfl), hcall]
    rw [show evFn Try.prog c5 lf 54 ((#[] : Array Value).toList ++ [.func (.yield (Hc.next + 1)) #[] #[]] ++ (#[.pointer (some ⟨bt, 0, none⟩)] : Array Value).toList) ((Hc.push .defs).push (theLoop Try.prog 160 E #[89, 90] (cAt Try.f7 (pU ++ [1, 0, 0, 1, 1, 1, 0, 1, 0, 0])) (cAt Try.f7 (pU ++ [1, 0, 0, 1, 1, 1, 0, 1, 0, 1])))) = _ from hr, r1]
    rcases hx with rfl | rfl <;> simp
  rcases hg with ⟨hnil, rfl⟩ | ⟨br, rfl, gbr, _, hbl⟩
  · have r := gi_run_nil (call := c5) (lf := lf) (l := Hc.next + 1) (by omega) (hk5.of_get F.wf gt (by simp))
    refine fin rfl r hI0 (.inl ⟨rfl, rfl⟩) ?_
    rw [show bs.length = 0 by rw [hnil]; rfl]
    unfold cntL
    split <;> omega
  · have gbr5 := hk5.of_get F.wf gbr (by simp)
    have G : GoingS c5 (bs.map pairC) br (Hc.next + 1) (stopL t many) (fun j H => RI H0 c Hc.next (Hc.next + 1) (loopB E .ready none) j H ∧ (t = 0 → j < stopL t many)) (fun H => RI H0 c Hc.next (Hc.next + 1) (loopB E .done (some (.exit 6))) (stopL t many) H) := by
      refine ⟨fun j H h => h.1.k.wf, fun j H z o h => ⟨h.1.setNew z o, h.2⟩, fun j H h => h.1.k.of_get F.wf gbr (by simp), fun j H h => ⟨_, h.1.gl, rfl⟩, ?_, ?_⟩
      · intro j H k op hI hrow hst
        rw [List.getElem?_map] at hrow
        obtain ⟨y, hy, he⟩ := Option.map_eq_some_iff.1 hrow
        simp only [pairC, List.cons.injEq, Value.int.injEq, true_and, and_true] at he
        obtain ⟨rfl, rfl⟩ := he
        have hjl := (List.getElem?_eq_some_iff.1 hy).1
        obtain ⟨q1, q2⟩ := f7_round2 (call := c0) (lf := lf) F hI.1 hc hcl (Nat.lt_succ_self _) hy (by omega) e3 e10 e11 e15
        obtain ⟨H', r, hR⟩ := q2 (stop_no hI.2 hst)
        exact ⟨H', (hround _ _ _).trans r, hR, fun h0 => by have := hI.2 h0; omega⟩
      · intro j H k op hI hrow hst
        rw [List.getElem?_map] at hrow
        obtain ⟨y, hy, he⟩ := Option.map_eq_some_iff.1 hrow
        simp only [pairC, List.cons.injEq, Value.int.injEq, true_and, and_true] at he
        obtain ⟨rfl, rfl⟩ := he
        have hjl := (List.getElem?_eq_some_iff.1 hy).1
        obtain ⟨q1, q2⟩ := f7_round2 (call := c0) (lf := lf) F hI.1 hc hcl (Nat.lt_succ_self _) hy (by omega) e3 e10 e11 e15
        obtain ⟨H', r, hR⟩ := q1 (stop_yes hst)
        rw [hst] at hR
        exact ⟨H', (hround _ _ _).trans r, hR⟩
    have hlen : (bs.map pairC).length = bs.length := by simp
    obtain ⟨H6, r, g1, g2⟩ := gi_run (lf := lf) (bt := bt) G (pairs_two _) (by rw [hlen]; omega) (by rw [hlen]; omega) ⟨hI0, stop_pos⟩ (by rw [hlen]; exact hk5.of_get F.wf gt (by simp))
    rw [hlen] at g1 g2
    by_cases hs : stopL t many = 0 ∨ bs.length < stopL t many
    · exact fin rfl r (g1 hs).1 (.inl ⟨rfl, rfl⟩) (cnt_all hs).symm
    · have h0 : stopL t many ≠ 0 := fun h => hs (.inl h)
      have h1 : stopL t many ≤ bs.length := by
        rcases Nat.lt_or_ge bs.length (stopL t many) with h | h
        · exact absurd (.inr h) hs
        · exact h
      exact fin rfl r (g2 h0 h1) (.inr ⟨rfl, rfl⟩) (cnt_stop h0 h1).symm
end Go.Proofs.Ytpopkajkekceiaa

namespace Go.Proofs.Ytpopkajkekceiaa
open Go Go.Abs
set_option maxRecDepth 100000
set_option linter.unusedSimpArgs false
set_option linter.unusedVariables false

/-! ### FunOrders: a turn -/
def keepU (e e' : Env) : Prop := e'.val 2 = e.val 2 ∧ e'.val 3 = e.val 3 ∧ e'.val 4 = e.val 4 ∧ e'.val 6 = e.val 6 ∧ e'.val 7 = e.val 7 ∧ e'.val 9 = e.val 9 ∧ e'.val 10 = e.val 10
theorem keepU.trans {a b c : Env} (h : keepU a b) (k : keepU b c) : keepU a c := ⟨k.1.trans h.1, k.2.1.trans h.2.1, k.2.2.1.trans h.2.2.1, k.2.2.2.1.trans h.2.2.2.1, k.2.2.2.2.1.trans h.2.2.2.2.1, k.2.2.2.2.2.1.trans h.2.2.2.2.2.1, k.2.2.2.2.2.2.trans h.2.2.2.2.2.2⟩
theorem keepU.refl (a : Env) : keepU a a := ⟨rfl, rfl, rfl, rfl, rfl, rfl, rfl⟩

theorem u_exit {call : CallF} {lf : Nat} {env : Env} {ds : List ADef} {H : Heap} {b11 : Nat} (e11 : env.val 11 = .pointer (some ⟨b11, 0, none⟩)) (g11 : H.get b11 = some (.cells true 1 [.int .i64 2])) :
    ∃ env', evCode Try.prog call lf 160 none (cAt Try.f7 pU) env ds H = some (.exit 2, env', ds, H) ∧ keepU env env' := by
  have ld : loadA Try.prog 3 H b11 0 = some (.int .i64 2) := by simp [loadA, g11]
  generalize hr : evCode Try.prog call lf 160 none (cAt Try.f7 pU) env ds H = out
  simp [pU, Try.f7, e11, ld] at hr
  subst hr
  exact ⟨_, rfl, by simp [keepU]⟩
theorem u_R13 {call : CallF} {lf : Nat} {env : Env} {ds : List ADef} {H : Heap} {b11 : Nat} {t : Int} (ht : t = 0 ∨ t = 1) (e11 : env.val 11 = .pointer (some ⟨b11, 0, none⟩)) (g11 : H.get b11 = some (.cells true 1 [.int .i64 t])) :
    ∃ env', evCode Try.prog call lf 160 none (cAt Try.f7 (pU ++ [0])) env ds H = some (.normal, env', ds, H) ∧ keepU env env' ∧ env'.val 11 = env.val 11 := by
  have ld : loadA Try.prog 3 H b11 0 = some (.int .i64 t) := by simp [loadA, g11]
  generalize hr : evCode Try.prog call lf 160 none (cAt Try.f7 (pU ++ [0])) env ds H = out
  rcases ht with rfl | rfl
  · simp [pU, Try.f7, e11, ld] at hr
    subst hr
    exact ⟨_, rfl, by simp [keepU], by simp [e11]⟩
  · simp [pU, Try.f7, e11, ld] at hr
    subst hr
    exact ⟨_, rfl, by simp [keepU], by simp [e11]⟩
theorem u_R15 {call : CallF} {lf : Nat} {env : Env} {ds : List ADef} {H : Heap} :
    ∃ env', evCode Try.prog call lf 160 none (cAt Try.f7 (pU ++ [1, 0, 0, 0])) env ds H = some (.normal, env', ds, (H.push (.cells true 1 [.int .i64 0])).set H.next (.cells true 1 [.int .i64 0])) ∧ keepU env env' ∧ env'.val 11 = env.val 11 ∧ env'.val 12 = .pointer (some ⟨H.next, 0, none⟩) := by
  have st := store1i (H := H.push (.cells true 1 [.int .i64 0])) (b := H.next) (v := 0) (get_push_self _ _)
  generalize hr : evCode Try.prog call lf 160 none (cAt Try.f7 (pU ++ [1, 0, 0, 0])) env ds H = out
  simp [pU, Try.f7, st] at hr
  subst hr
  exact ⟨_, rfl, by simp [keepU], by simp, by simp⟩
theorem u_R16 {call : CallF} {lf : Nat} {env : Env} {ds : List ADef} {H : Heap} {v : Value} (e6 : env.val 6 = v) :
    ∃ env', evCode Try.prog call lf 160 none (cAt Try.f7 (pU ++ [1, 0, 0, 1, 0, 0])) env ds H = some (.normal, env', ds, H) ∧ keepU env env' ∧ env'.val 11 = env.val 11 ∧ env'.val 12 = env.val 12 ∧ env'.val 54 = v := by
  generalize hr : evCode Try.prog call lf 160 none (cAt Try.f7 (pU ++ [1, 0, 0, 1, 0, 0])) env ds H = out
  simp [pU, Try.f7, e6] at hr
  subst hr
  exact ⟨_, rfl, by simp [keepU, e6], by simp, by simp, by simp⟩
theorem u_R23 {call : CallF} {lf : Nat} {env : Env} {ds : List ADef} {H : Heap} :
    ∃ env', evCode Try.prog call lf 160 none (cAt Try.f7 (pU ++ [1, 0, 0, 1, 1, 0])) env ds H = some (.normal, env', ds, (H.push (.cells true 1 [.int .i64 0])).set H.next (.cells true 1 [.int .i64 0])) ∧ keepU env env' ∧ env'.val 11 = env.val 11 ∧ env'.val 12 = env.val 12 ∧ env'.val 15 = .pointer (some ⟨H.next, 0, none⟩) := by
  have st := store1i (H := H.push (.cells true 1 [.int .i64 0])) (b := H.next) (v := 0) (get_push_self _ _)
  generalize hr : evCode Try.prog call lf 160 none (cAt Try.f7 (pU ++ [1, 0, 0, 1, 1, 0])) env ds H = out
  simp [pU, Try.f7, st] at hr
  subst hr
  exact ⟨_, rfl, by simp [keepU], by simp, by simp, by simp⟩
theorem u_R24 {call : CallF} {lf : Nat} {env : Env} {ds : List ADef} {H : Heap} {v : Value} (e7 : env.val 7 = v) :
    ∃ env', evCode Try.prog call lf 160 none (cAt Try.f7 (pU ++ [1, 0, 0, 1, 1, 1, 0, 0])) env ds H = some (.normal, env', ds, H) ∧ keepU env env' ∧ env'.val 11 = env.val 11 ∧ env'.val 12 = env.val 12 ∧ env'.val 15 = env.val 15 ∧ env'.val 88 = v := by
  generalize hr : evCode Try.prog call lf 160 none (cAt Try.f7 (pU ++ [1, 0, 0, 1, 1, 1, 0, 0])) env ds H = out
  simp [pU, Try.f7, e7] at hr
  subst hr
  exact ⟨_, rfl, by simp [keepU, e7], by simp, by simp, by simp, by simp⟩

theorem u_R31 {call : CallF} {lf : Nat} {env : Env} {ds : List ADef} {H : Heap} {b3 b9 b10 b11 b12 b15 n m : Nat} {wa wb : Value} {t many : Int} (ht : t = 0 ∨ t = 1)
    (l11 : loadA Try.prog 3 H b11 0 = some (.int .i64 t)) (l3 : loadA Try.prog 3 H b3 0 = some (.int .i64 many)) (l9 : loadA Try.prog 38 H b9 0 = some wa) (l10 : loadA Try.prog 52 H b10 0 = some wb)
    (l12 : loadA Try.prog 3 H b12 0 = some (.int .i64 ((cntL t many n : Nat) : Int))) (l15 : loadA Try.prog 3 H b15 0 = some (.int .i64 ((cntL t many m : Nat) : Int)))
    (la : builtinA Try.prog .len #[38] [wa] H = some (.val (.int .i64 n), H)) (lb : builtinA Try.prog .len #[52] [wb] H = some (.val (.int .i64 m), H))
    (e3 : env.val 3 = .pointer (some ⟨b3, 0, none⟩)) (e9 : env.val 9 = .pointer (some ⟨b9, 0, none⟩)) (e10 : env.val 10 = .pointer (some ⟨b10, 0, none⟩)) (e11 : env.val 11 = .pointer (some ⟨b11, 0, none⟩)) (e12 : env.val 12 = .pointer (some ⟨b12, 0, none⟩)) (e15 : env.val 15 = .pointer (some ⟨b15, 0, none⟩)) :
    ∃ env', evCode Try.prog call lf 160 none (cAt Try.f7 (pU ++ [1, 0, 0, 1, 1, 1, 1])) env ds H = some (.normal, env', ds, H) ∧ keepU env env' ∧ env'.val 11 = env.val 11 := by
  generalize hr : evCode Try.prog call lf 160 none (cAt Try.f7 (pU ++ [1, 0, 0, 1, 1, 1, 1])) env ds H = out
  rcases ht with rfl | rfl
  · have bmax : builtinA Try.prog .max #[3, 3] [.int .i64 1, .int .i64 many] H = some (.val (.int .i64 (max 1 many)), H) := by
      rw [builtin_max2]
      have : (if many > 1 then many else 1) = max 1 many := by split <;> omega
      rw [this]
    have bmin : ∀ n : Nat, builtinA Try.prog .min #[3, 3] [.int .i64 (n : Int), .int .i64 (max 1 many)] H = some (.val (.int .i64 ((cntL 0 many n : Nat) : Int)), H) := by
      intro n
      rw [builtin_min2]
      have : (if max 1 many < (n : Int) then max 1 many else (n : Int)) = ((cntL 0 many n : Nat) : Int) := by
        unfold cntL
        rw [if_pos rfl]
        split <;> omega
      rw [this]
    have bm1 := bmin n
    have bm2 := bmin m
    generalize max 1 many = mx at *
    generalize cntL 0 many n = c1 at *
    generalize cntL 0 many m = c2 at *
    simp [pU, Try.f7, e3, e9, e10, e11, e12, e15, l3, l9, l10, l11, l12, l15, la, lb, bmax, bm1, bm2, undef, -builtin_max2, -builtin_min2] at hr
    subst hr
    exact ⟨_, rfl, by simp [keepU, e3, e9, e10], by simp [e11]⟩
  · have c1 : cntL 1 many n = n := rfl
    have c2 : cntL 1 many m = m := rfl
    rw [c1] at l12
    rw [c2] at l15
    simp [pU, Try.f7, e3, e9, e10, e11, e12, e15, l3, l9, l10, l11, l12, l15, la, lb, undef] at hr
    subst hr
    exact ⟨_, rfl, by simp [keepU, e3, e9, e10], by simp [e11]⟩

theorem u_rest {call : CallF} {lf : Nat} {env : Env} {ds : List ADef} {H : Heap} {b11 : Nat} {t : Int} (ht : t = 0 ∨ t = 1) (l11 : loadA Try.prog 3 H b11 0 = some (.int .i64 t)) (e11 : env.val 11 = .pointer (some ⟨b11, 0, none⟩)) :
    ∃ env', evCode Try.prog call lf 160 none (cAt Try.f7 (pU ++ [1, 1])) env ds H = some (.normal, env', ds, ((H.push (.cells true 1 [.int .i64 0])).set H.next (.cells true 1 [.int .i64 t])).set H.next (.cells true 1 [.int .i64 (t + 1)])) ∧ keepU env env' ∧ env'.val 11 = .pointer (some ⟨H.next, 0, none⟩) := by
  have st := store1i (H := H.push (.cells true 1 [.int .i64 0])) (b := H.next) (v := t) (get_push_self _ _)
  have st2 := store1i (H := (H.push (.cells true 1 [.int .i64 0])).set H.next (.cells true 1 [.int .i64 t])) (b := H.next) (v := t + 1) (get_set_self _ _ _)
  have ld : loadA Try.prog 3 ((H.push (.cells true 1 [.int .i64 0])).set H.next (.cells true 1 [.int .i64 t])) H.next 0 = some (.int .i64 t) := by simp [loadA, get_set_self]
  have w1 : IntKind.i64.wrap (t + 1) = t + 1 := wrapI (by omega) (by omega)
  generalize hr : evCode Try.prog call lf 160 none (cAt Try.f7 (pU ++ [1, 1])) env ds H = out
  simp [pU, Try.f7, e11, l11, st, ld, w1, st2] at hr
  subst hr
  exact ⟨_, rfl, by simp [keepU], by simp⟩
end Go.Proofs.Ytpopkajkekceiaa

namespace Go.Proofs.Ytpopkajkekceiaa
open Go Go.Abs
set_option maxRecDepth 100000
set_option linter.unusedSimpArgs false
set_option linter.unusedVariables false

theorem OFix.keep {H0 H : Heap} {f : FunD} {b2 b3 b9 b10 b11 : Nat} {s wa wb : Value} {xs : List (List Value)} {av : List Int} {bs : List (Int × Int)} {t many : Int} (F : OFix H0 f b2 b3 b9 b10 b11 s wa wb xs av bs t many) (k : Kept H0 H none) : OFix H f b2 b3 b9 b10 b11 s wa wb xs av bs t many :=
  have x := k.ext F.wf
  ⟨k.wf, x _ _ F.g2, x _ _ F.g3, x _ _ F.g9, x _ _ F.g10, x _ _ F.g11, F.ns.ext x, rdInts_ext x F.ra, rdS_ext x F.rb, F.ht⟩
theorem OFix.next {H0 H : Heap} {f : FunD} {b2 b3 b9 b10 b11 b : Nat} {s wa wb : Value} {xs : List (List Value)} {av : List Int} {bs : List (Int × Int)} {t t' many : Int} (F : OFix H0 f b2 b3 b9 b10 b11 s wa wb xs av bs t many) (k : Kept H0 H none) (g : H.get b = some (.cells true 1 [.int .i64 t'])) (ht : t' = 0 ∨ t' = 1) : OFix H f b2 b3 b9 b10 b s wa wb xs av bs t' many :=
  have x := k.ext F.wf
  ⟨k.wf, x _ _ F.g2, x _ _ F.g3, x _ _ F.g9, x _ _ F.g10, g, F.ns.ext x, rdInts_ext x F.ra, rdS_ext x F.rb, ht⟩

theorem turn_run {call c5 c0 : CallF} {lf : Nat} {E : Env} {ds : List ADef} {H : Heap} {f : FunD} {b2 b3 b9 b10 b11 bt bt2 lo lo2 : Nat} {s wa wb wo wc : Value} {xs : List (List Value)} {bs : List (Int × Int)} {ord : List Nat} {t many : Int}
    (F : OFix H f b2 b3 b9 b10 b11 s wa wb xs (natsL ord) bs t many) (gt : H.get bt = some (.cells true 1 [wo])) (hg : growP lo H (ordRows f ord) wo) (gt2 : H.get bt2 = some (.cells true 1 [wc])) (hg2 : growP lo2 H bs wc)
    (hol : ∀ k ∈ ord, k < f.nodes.length) (hn : ord.length < 1000) (hn2 : bs.length < 1000) (hlf : ord.length < lf) (hlf2 : bs.length < lf)
    (hcall : ∀ args H, call (.fn 52 args) H = evFn Try.prog c5 lf 52 args H) (hcall2 : ∀ args H, call (.fn 54 args) H = evFn Try.prog c5 lf 54 args H) (hround : ∀ l args H, c5 (.round l args) H = evRound Try.prog c0 lf l args H)
    (e2 : E.val 2 = .pointer (some ⟨b2, 0, none⟩)) (e3 : E.val 3 = .pointer (some ⟨b3, 0, none⟩)) (e6 : E.val 6 = .func (.func 52) #[] #[.pointer (some ⟨bt, 0, none⟩)]) (e7 : E.val 7 = .func (.func 54) #[] #[.pointer (some ⟨bt2, 0, none⟩)]) (e9 : E.val 9 = .pointer (some ⟨b9, 0, none⟩)) (e10 : E.val 10 = .pointer (some ⟨b10, 0, none⟩)) (e11 : E.val 11 = .pointer (some ⟨b11, 0, none⟩)) :
    ∃ env' H' d1 d2 b, evCode Try.prog call lf 160 none (cAt Try.f7 pU) E ds H = some (.normal, env', .mark d2 :: .mark d1 :: ds, H') ∧ keepU E env' ∧ env'.val 11 = .pointer (some ⟨b, 0, none⟩) ∧ H'.get b = some (.cells true 1 [.int .i64 (t + 1)]) ∧ Kept H H' none ∧ H'.get d1 = some .defs ∧ H'.get d2 = some .defs ∧ H.next ≤ d1 ∧ d1 < d2 ∧ d2 < H'.next := by
  obtain ⟨a1, r1, k1, k111⟩ := u_R13 (call := call) (lf := lf) (ds := ds) F.ht e11 F.g11
  obtain ⟨a2, r2, k2, k211, k212⟩ := u_R15 (call := call) (lf := lf) (env := a1) (ds := ds) (H := H)
  have kc1 : Kept H ((H.push (.cells true 1 [.int .i64 0])).set H.next (.cells true 1 [.int .i64 0])) none := ((Kept.refl F.wf none).push _).set (Nat.le_refl _) (by simp) _
  have gc1 : ((H.push (.cells true 1 [.int .i64 0])).set H.next (.cells true 1 [.int .i64 0])).get H.next = some (.cells true 1 [.int .i64 0]) := get_set_self _ _ _
  have nc1 : ((H.push (.cells true 1 [.int .i64 0])).set H.next (.cells true 1 [.int .i64 0])).next = H.next + 1 := rfl
  generalize (H.push (.cells true 1 [.int .i64 0])).set H.next (.cells true 1 [.int .i64 0]) = Hc1 at *
  have K12 := k1.trans k2
  obtain ⟨a3, r3, k3, k311, k312, k354⟩ := u_R16 (call := call) (lf := lf) (ds := ds) (H := Hc1) (env := a2) (K12.2.2.2.1.trans e6)
  have K3 := K12.trans k3
  have j11 : a3.val 11 = .pointer (some ⟨b11, 0, none⟩) := k311.trans (k211.trans (k111.trans e11))
  have hln : (ordRows f ord).length = ord.length := by simp [ordRows]
  obtain ⟨H1, r4, kH1, gn, gd1⟩ := rangeA (call := call) (c5 := c5) (c0 := c0) (lf := lf) (ds := ds) (ord := ord) F kc1 gc1 (Nat.le_refl _) (by omega) gt hg (by omega) (by omega) rfl hol hcall hround (K3.1.trans e2) (K3.2.1.trans e3) (K3.2.2.2.2.2.1.trans e9) j11 (k312.trans k212) k354
  rw [hln] at gn
  have lt1 := kH1.wf.lt gd1
  have F1 := F.keep kH1
  obtain ⟨a5, r5, k5, k511, k512, k515⟩ := u_R23 (call := call) (lf := lf) (env := a3) (ds := .mark Hc1.next :: ds) (H := H1)
  have kc2 : Kept H1 ((H1.push (.cells true 1 [.int .i64 0])).set H1.next (.cells true 1 [.int .i64 0])) none := ((Kept.refl F1.wf none).push _).set (Nat.le_refl _) (by simp) _
  have gc2 : ((H1.push (.cells true 1 [.int .i64 0])).set H1.next (.cells true 1 [.int .i64 0])).get H1.next = some (.cells true 1 [.int .i64 0]) := get_set_self _ _ _
  have nc2 : ((H1.push (.cells true 1 [.int .i64 0])).set H1.next (.cells true 1 [.int .i64 0])).next = H1.next + 1 := rfl
  generalize (H1.push (.cells true 1 [.int .i64 0])).set H1.next (.cells true 1 [.int .i64 0]) = Hc2 at *
  have K5 := K3.trans k5
  obtain ⟨a6, r6, k6, k611, k612, k615, k688⟩ := u_R24 (call := call) (lf := lf) (ds := .mark Hc1.next :: ds) (H := Hc2) (env := a5) (K5.2.2.2.2.1.trans e7)
  have K6 := K5.trans k6
  have i11 : a6.val 11 = .pointer (some ⟨b11, 0, none⟩) := k611.trans (k511.trans j11)
  have i12 : a6.val 12 = .pointer (some ⟨H.next, 0, none⟩) := k612.trans (k512.trans (k312.trans k212))
  have i15 : a6.val 15 = .pointer (some ⟨H1.next, 0, none⟩) := k615.trans k515
  obtain ⟨H2, r7, kH2, gm, gd2⟩ := rangeB (call := call) (c5 := c5) (c0 := c0) (lf := lf) (ds := .mark Hc1.next :: ds) F1 kc2 gc2 (Nat.le_refl _) (by omega) (kH1.of_get F.wf gt2 (by simp)) (hg2.keep kH1) hn2 hlf2 hcall2 hround (K6.2.1.trans e3) (K6.2.2.2.2.2.2.trans e10) i11 i15 k688
  have lt2 := kH2.wf.lt gd2
  have F2 := F1.keep kH2
  have la := len_of (H' := H2) (P := Try.prog) (t := 38) (rdInts_rd F2.ra) Try.underlying38
  simp only [natsL, List.length_map] at la
  have lb := len_of (H' := H2) (P := Try.prog) (t := 52) F2.rb Try.underlying52
  simp only [List.length_map] at lb
  obtain ⟨oa1, oa2⟩ := ints_one F2.ra
  obtain ⟨ob1, ob2, _, _⟩ := rdS_one F2.rb
  obtain ⟨a8, r8, k8, k811⟩ := u_R31 (call := call) (lf := lf) (env := a6) (ds := .mark Hc2.next :: .mark Hc1.next :: ds) (H := H2) (n := ord.length) (m := bs.length) (wa := wa) (wb := wb) (many := many) F.ht (by simp [loadA, F2.g11]) (by simp [loadA, F2.g3]) (by simp [loadA, F2.g9, oa1, oa2]) (by simp [loadA, F2.g10, ob1, ob2])
    (by simp [loadA, kH2.of_get F1.wf gn (by simp)]) (by simp [loadA, gm]) la lb (K6.2.1.trans e3) (K6.2.2.2.2.2.1.trans e9) (K6.2.2.2.2.2.2.trans e10) i11 i12 i15
  have K8 := K6.trans k8
  obtain ⟨a9, r9, k9, k911⟩ := u_rest (call := call) (lf := lf) (env := a8) (ds := .mark Hc2.next :: .mark Hc1.next :: ds) (H := H2) F.ht (by simp [loadA, F2.g11]) (k811.trans i11)
  have kH3 : Kept H2 (((H2.push (.cells true 1 [.int .i64 0])).set H2.next (.cells true 1 [.int .i64 t])).set H2.next (.cells true 1 [.int .i64 (t + 1)])) none := (((Kept.refl F2.wf none).push _).set (Nat.le_refl _) (by simp) _).set (Nat.le_refl _) (by simp) _
  have l1 := kH1.le
  have l2 := kH2.le
  have l3 := kH3.le
  refine ⟨a9, _, Hc1.next, Hc2.next, H2.next, ?_, K8.trans k9, k911, get_set_self _ _ _, (kH1.trans kH2).trans kH3, kH3.of_get F2.wf (kH2.of_get F1.wf gd1 (by simp)) (by simp), kH3.of_get F2.wf gd2 (by simp), by omega, by omega, by omega⟩
  have hin : evCode Try.prog call lf 160 none (cAt Try.f7 (pU ++ [1, 0, 0])) a1 ds H = some (.normal, a8, .mark Hc2.next :: .mark Hc1.next :: ds, H2) := by
    rw [ev_then (c := cAt Try.f7 (pU ++ [1, 0, 0])) (b := cAt Try.f7 (pU ++ [1, 0, 0, 1])) rfl r2,
      ev_then (c := cAt Try.f7 (pU ++ [1, 0, 0, 1])) (a := cAt Try.f7 (pU ++ [1, 0, 0, 1, 0])) (b := cAt Try.f7 (pU ++ [1, 0, 0, 1, 1])) rfl (by rw [ev_then (c := cAt Try.f7 (pU ++ [1, 0, 0, 1, 0])) (b := cAt Try.f7 (pU ++ [1, 0, 0, 1, 0, 1])) rfl r3, r4]),
      ev_then (c := cAt Try.f7 (pU ++ [1, 0, 0, 1, 1])) (b := cAt Try.f7 (pU ++ [1, 0, 0, 1, 1, 1])) rfl r5,
      ev_then (c := cAt Try.f7 (pU ++ [1, 0, 0, 1, 1, 1])) (a := cAt Try.f7 (pU ++ [1, 0, 0, 1, 1, 1, 0])) (b := cAt Try.f7 (pU ++ [1, 0, 0, 1, 1, 1, 1])) rfl (by rw [ev_then (c := cAt Try.f7 (pU ++ [1, 0, 0, 1, 1, 1, 0])) (b := cAt Try.f7 (pU ++ [1, 0, 0, 1, 1, 1, 0, 1])) rfl r6, r7]), r8]
  have hblk : evCode Try.prog call lf 160 none (cAt Try.f7 (pU ++ [1, 0])) a1 ds H = some (.normal, a8, .mark Hc2.next :: .mark Hc1.next :: ds, H2) := by
    rw [show cAt Try.f7 (pU ++ [1, 0]) = .block 3 (cAt Try.f7 (pU ++ [1, 0, 0])) from rfl, evCode_block, hin]
  rw [ev_then (c := cAt Try.f7 pU) (b := cAt Try.f7 (pU ++ [1])) rfl r1, ev_then (c := cAt Try.f7 (pU ++ [1])) (b := cAt Try.f7 (pU ++ [1, 1])) rfl hblk, r9]

/-- Both turns. -/
theorem turns_run {call c5 c0 : CallF} {lf : Nat} {E : Env} {H : Heap} {f : FunD} {b2 b3 b9 b10 b11 bt bt2 lo lo2 : Nat} {s wa wb wo wc : Value} {xs : List (List Value)} {bs : List (Int × Int)} {ord : List Nat} {many : Int}
    (F : OFix H f b2 b3 b9 b10 b11 s wa wb xs (natsL ord) bs 0 many) (gt : H.get bt = some (.cells true 1 [wo])) (hg : growP lo H (ordRows f ord) wo) (gt2 : H.get bt2 = some (.cells true 1 [wc])) (hg2 : growP lo2 H bs wc)
    (hol : ∀ k ∈ ord, k < f.nodes.length) (hn : ord.length < 1000) (hn2 : bs.length < 1000) (hlf : ord.length < lf) (hlf2 : bs.length < lf) (hl3 : 2 < lf)
    (hcall : ∀ args H, call (.fn 52 args) H = evFn Try.prog c5 lf 52 args H) (hcall2 : ∀ args H, call (.fn 54 args) H = evFn Try.prog c5 lf 54 args H) (hround : ∀ l args H, c5 (.round l args) H = evRound Try.prog c0 lf l args H)
    (e2 : E.val 2 = .pointer (some ⟨b2, 0, none⟩)) (e3 : E.val 3 = .pointer (some ⟨b3, 0, none⟩)) (e6 : E.val 6 = .func (.func 52) #[] #[.pointer (some ⟨bt, 0, none⟩)]) (e7 : E.val 7 = .func (.func 54) #[] #[.pointer (some ⟨bt2, 0, none⟩)]) (e9 : E.val 9 = .pointer (some ⟨b9, 0, none⟩)) (e10 : E.val 10 = .pointer (some ⟨b10, 0, none⟩)) (e11 : E.val 11 = .pointer (some ⟨b11, 0, none⟩)) :
    ∃ env' H' d1 d2 d3 d4, evLoop Try.prog call lf 160 none (cAt Try.f7 pU) lf E [] H = some (.exit 2, env', [.mark d4, .mark d3, .mark d2, .mark d1], H') ∧ keepU E env' ∧ Kept H H' none ∧ H'.get d1 = some .defs ∧ H'.get d2 = some .defs ∧ H'.get d3 = some .defs ∧ H'.get d4 = some .defs ∧ H.next ≤ d1 ∧ d1 < d2 ∧ d2 < d3 ∧ d3 < d4 := by
  obtain ⟨a1, H1, d1, d2, b, r1, k1, m11, g11, kH1, gd1, gd2, o1, o2, o3⟩ := turn_run (call := call) (c5 := c5) (c0 := c0) (lf := lf) (ds := []) F gt hg gt2 hg2 hol hn hn2 hlf hlf2 hcall hcall2 hround e2 e3 e6 e7 e9 e10 e11
  have F1 := F.next kH1 g11 (.inr rfl)
  obtain ⟨a2, H2, d3, d4, b', r2, k2, n11, g12, kH2, gd3, gd4, o4, o5, o6⟩ := turn_run (call := call) (c5 := c5) (c0 := c0) (lf := lf) (ds := [.mark d2, .mark d1]) F1 (kH1.of_get F.wf gt (by simp)) (hg.keep kH1) (kH1.of_get F.wf gt2 (by simp)) (hg2.keep kH1) hol hn hn2 hlf hlf2 hcall hcall2 hround (k1.1.trans e2) (k1.2.1.trans e3) (k1.2.2.2.1.trans e6) (k1.2.2.2.2.1.trans e7) (k1.2.2.2.2.2.1.trans e9) (k1.2.2.2.2.2.2.trans e10) m11
  obtain ⟨a3, r3, k3⟩ := u_exit (call := call) (lf := lf) (ds := [.mark d4, .mark d3, .mark d2, .mark d1]) n11 g12
  obtain ⟨m, rfl⟩ : ∃ m, lf = m + 3 := ⟨lf - 3, by omega⟩
  refine ⟨a3, H2, d1, d2, d3, d4, ?_, (k1.trans k2).trans k3, kH1.trans kH2, kH2.of_get F1.wf gd1 (by simp), kH2.of_get F1.wf gd2 (by simp), gd3, gd4, o1, o2, by omega, o5⟩
  simp only [evLoop_succ, r1, r2, r3]
end Go.Proofs.Ytpopkajkekceiaa

namespace Go.Proofs.Ytpopkajkekceiaa
open Go Go.Abs
set_option maxRecDepth 100000
set_option linter.unusedSimpArgs false
set_option linter.unusedVariables false

/-- Order, with its rows as pairs. -/
theorem order7 {lf : Nat} {H : Heap} {v : Value} {f : FunD} (hw : H.Wf) (hf : rdFit H v = some f) (hlf : 300 ≤ lf) :
    ∃ bt wo H', evFn Try.prog (callI lf) lf 21 [v] H = some (.ret (.func (.func 52) #[] #[.pointer (some ⟨bt, 0, none⟩)]), H') ∧ Ext H H' ∧ H'.Wf ∧ H.next ≤ H'.next ∧ H.next ≤ bt ∧ H'.get bt = some (.cells true 1 [wo]) ∧ growP H.next H' (ordRows f (ordL f)) wo ∧
      (∀ k ∈ ordL f, k < f.nodes.length) ∧ (ordL f).length ≤ 200 ∧ (∀ ps, lookedL f = .ok ps → 0 < f.nodes.length ∧ (post (kidsOf f) f.nodes.length 0).length ≤ 100000) := by
  obtain ⟨ook, oerr⟩ := order_run hw hf hlf
  cases hL : lookedL f with
  | ok ps =>
    obtain ⟨_, hn0, hn200, _, _⟩ := ti_looked hL
    have hT := tree_of hL
    obtain ⟨out, bt, br, H', c, x, w, hle, hD, h1, h2, gt, gr, hX⟩ := ook ps hL
    have hpost := order_post hT.up (by omega) hX
    obtain ⟨hol, _⟩ := di_end hT hD
    have ho : ordL f = out.reverse := by unfold ordL; rw [okP_ok hL, hpost]; rfl
    have hlen : (ordRows f (ordL f)).length = f.nodes.length := by simp [ordRows, ho, hol]
    refine ⟨bt, _, H', c, x, w, hle, h1, gt, .inr ⟨br, by rw [hlen], ?_, h2, w.lt gr⟩, ?_, by rw [ho]; simp; omega, fun ps' _ => ⟨by omega, by rw [← hpost]; simp; omega⟩⟩
    · rw [gr, ho]
      simp only [ordRows, List.map_map]
      rw [← List.map_reverse]
      rfl
    · intro k hk
      rw [ho] at hk
      exact hD.lt k (by simpa using hk)
  | error i =>
    obtain ⟨bt, H', c, x, w, hle, h1, gt⟩ := oerr i hL
    have ho : ordL f = [] := by unfold ordL; rw [okP_error hL]; rfl
    exact ⟨bt, _, H', c, x, w, hle, h1, gt, .inl ⟨by rw [ho]; rfl, rfl⟩, (by rw [ho]; intro k hk; cases hk), by rw [ho]; simp, fun ps h => by cases h⟩

/-! ### FunOrders: calls -/
noncomputable def pick7 (lf : Nat) (f : FuncId) : CallF :=
  if f = 21 then callI lf else if f = 22 then evWith Try.prog lf c8 1 else if f = 23 then call23 lf else if f = 24 then evWith Try.prog lf [rightC] 300 else if f = 25 then callOf [rightC, namesC] else ev1 Try.prog (fun _ _ => none) lf
theorem pick7_ok (lf : Nat) (f : FuncId) : CallOk Try.prog (pick7 lf f) := by
  unfold pick7
  split
  · exact callI_ok lf
  split
  · exact evWith_ok _ _ _
  split
  · exact call23_ok lf
  split
  · exact evWith_ok _ _ _
  split
  · exact callOf_ok _
  · exact ev1_sound noCall_ok
noncomputable def in7 (lf : Nat) : CallF := fun job H => match job with
  | .fn f args => evFn Try.prog (pick7 lf f) lf f args H
  | .round _ _ => none
theorem in7_ok (lf : Nat) : CallOk Try.prog (in7 lf) := by
  intro job H res H' h
  cases job with
  | fn f args => exact ev1_sound (pick7_ok lf f) (.fn f args) H res H' h
  | round l args => cases h
noncomputable def call7 (lf : Nat) : CallF := orC (callOf [fewC, worksC]) (in7 lf)
theorem call7_ok (lf : Nat) : CallOk Try.prog (call7 lf) := orC_ok (callOf_ok _) (in7_ok lf)
theorem call7_few {lf : Nat} {H : Heap} {v : Value} {f : FunD} (h : rdFun H v = some f) : call7 lf (.fn 9 [v]) H = some (.ret (.bool (fewL f)), H) := orC_hit (few_hit h)
theorem call7_works {lf : Nat} {H : Heap} : call7 lf (.fn 10 []) H = some (.ret (.bool true), H) := orC_hit (by rw [callOf_miss (by decide)]; exact callOf_hit rfl rfl)
theorem call7_fn {lf : Nat} {f : FuncId} {args : List Value} {H : Heap} (h1 : f ≠ 9) (h2 : f ≠ 10) : call7 lf (.fn f args) H = evFn Try.prog (pick7 lf f) lf f args H := by
  unfold call7
  rw [orC_miss (by rw [callOf_miss h1, callOf_miss h2]; rfl)]
  rfl
end Go.Proofs.Ytpopkajkekceiaa

namespace Go.Proofs.Ytpopkajkekceiaa
open Go Go.Abs
set_option maxRecDepth 100000
set_option linter.unusedSimpArgs false
set_option linter.unusedVariables false

/-! ### FunOrders, region by region -/
theorem f_R0 {call : CallF} {lf : Nat} {H : Heap} {p : Int} {s : Value} {many : Int} (os : oneC s = true) :
    ∃ e, evCode Try.prog call lf 160 none (cAt Try.f7 [0]) (envOf 0 [.agg #[.int .i64 p, s], .int .i64 many] .nil) [] H = some (.normal, e, [], ((H.push (.cells true 2 [.int .i64 p, s])).push (.cells true 1 [.int .i64 many])).push (.cells true 1 [.bool false])) ∧
      e.val 2 = .pointer (some ⟨H.next, 0, none⟩) ∧ e.val 3 = .pointer (some ⟨H.next + 1, 0, none⟩) ∧ e.val 4 = .pointer (some ⟨H.next + 1 + 1, 0, none⟩) := by
  generalize hr : evCode Try.prog call lf 160 none (cAt Try.f7 [0]) (envOf 0 [.agg #[.int .i64 p, s], .int .i64 many] .nil) [] H = out
  simp [Try.f7, os] at hr
  subst hr
  exact ⟨_, rfl, by simp, by simp, by simp⟩
theorem store4 {H : Heap} {b : Nat} {x y : Bool} (h : H.get b = some (.cells true 1 [.bool x])) : storeA Try.prog 4 H b 0 (.bool y) = some (H.set b (.cells true 1 [.bool y])) := by
  simp [storeA, h, putL]
theorem f_R1 {call : CallF} {lf : Nat} {env : Env} {H : Heap} {b2 b4 : Nat} {v : Value} {b : Bool} (l2 : loadA Try.prog 24 H b2 0 = some v) (g4 : H.get b4 = some (.cells true 1 [.bool false])) (hc : call (.fn 9 [v]) H = some (.ret (.bool b), H)) (hw : call (.fn 10 []) H = some (.ret (.bool true), H)) (e2 : env.val 2 = .pointer (some ⟨b2, 0, none⟩)) (e4 : env.val 4 = .pointer (some ⟨b4, 0, none⟩)) :
    (b = true → ∃ e, evCode Try.prog call lf 160 none (cAt Try.f7 [1, 0]) env [] H = some (.normal, e, [], H) ∧ e.val 2 = env.val 2 ∧ e.val 3 = env.val 3 ∧ e.val 4 = env.val 4) ∧
    (b = false → ∃ e, evCode Try.prog call lf 160 none (cAt Try.f7 [1, 0]) env [] H = some (.ret, e, [], H.set b4 (.cells true 1 [.bool true])) ∧ e.val 4 = env.val 4) := by
  have st := store4 (y := true) g4
  constructor
  · rintro rfl
    generalize hr : evCode Try.prog call lf 160 none (cAt Try.f7 [1, 0]) env [] H = out
    simp [Try.f7, e2, e4, l2, callA, hc] at hr
    subst hr
    exact ⟨_, rfl, by simp [e2], by simp, by simp [e4]⟩
  · rintro rfl
    generalize hr : evCode Try.prog call lf 160 none (cAt Try.f7 [1, 0]) env [] H = out
    simp [Try.f7, e2, e4, l2, callA, hc, hw, st] at hr
    subst hr
    exact ⟨_, rfl, by simp [e4]⟩
theorem f_R3 {call : CallF} {lf : Nat} {env : Env} {H K : Heap} {b2 : Nat} {va : Value} {p : Int} {s : Value} (e2 : env.val 2 = .pointer (some ⟨b2, 0, none⟩)) (l2 : loadA Try.prog 24 H b2 0 = some va) (hc : call (.fn 22 [va]) H = some (.ret (.agg #[.int .i64 p, s]), K)) (os : oneC s = true) :
    ∃ e, evCode Try.prog call lf 160 none (cAt Try.f7 [1, 1, 0]) env [] H = some (.normal, e, [], (K.push (.cells true 2 [.int .i64 0, .slice none 0 0])).set K.next (.cells true 2 [.int .i64 p, s])) ∧ e.val 2 = env.val 2 ∧ e.val 3 = env.val 3 ∧ e.val 4 = env.val 4 ∧ e.val 5 = .pointer (some ⟨K.next, 0, none⟩) := by
  have st : storeA Try.prog 24 (K.push (.cells true 2 [.int .i64 0, .slice none 0 0])) K.next 0 (.agg #[.int .i64 p, s]) = some ((K.push (.cells true 2 [.int .i64 0, .slice none 0 0])).set K.next (.cells true 2 [.int .i64 p, s])) := by
    simp [storeA, get_push_self, os, putL]
  generalize hr : evCode Try.prog call lf 160 none (cAt Try.f7 [1, 1, 0]) env [] H = out
  simp [Try.f7, e2, l2, callA, hc, st] at hr
  subst hr
  exact ⟨_, rfl, by simp [e2], by simp, by simp, by simp⟩
theorem f_R4 {call : CallF} {lf : Nat} {env : Env} {H K1 K2 : Heap} {b5 bt bt2 : Nat} {vg : Value} (e5 : env.val 5 = .pointer (some ⟨b5, 0, none⟩)) (l5 : loadA Try.prog 24 H b5 0 = some vg) (l5' : loadA Try.prog 24 K1 b5 0 = some vg)
    (hc1 : call (.fn 21 [vg]) H = some (.ret (.func (.func 52) #[] #[.pointer (some ⟨bt, 0, none⟩)]), K1)) (hc2 : call (.fn 23 [vg]) K1 = some (.ret (.func (.func 54) #[] #[.pointer (some ⟨bt2, 0, none⟩)]), K2)) (eg : eqV vg vg = true) :
    ∃ e, evCode Try.prog call lf 160 none (cAt Try.f7 [1, 1, 1, 0]) env [] H = some (.normal, e, [], K2) ∧ e.val 2 = env.val 2 ∧ e.val 3 = env.val 3 ∧ e.val 4 = env.val 4 ∧ e.val 5 = env.val 5 ∧ e.val 6 = .func (.func 52) #[] #[.pointer (some ⟨bt, 0, none⟩)] ∧ e.val 7 = .func (.func 54) #[] #[.pointer (some ⟨bt2, 0, none⟩)] := by
  generalize hr : evCode Try.prog call lf 160 none (cAt Try.f7 [1, 1, 1, 0]) env [] H = out
  simp [Try.f7] at hr
  rw [evDraw_tab (tab := [(2, [1])])] at hr
  · simp [e5, l5, l5', callA, hc1, hc2, eg] at hr
    subst hr
    exact ⟨_, rfl, by simp, by simp, by simp, by simp [e5], by simp, by simp⟩
  · kernel_rfl
  · kernel_rfl
theorem f_R5 {call : CallF} {lf : Nat} {env : Env} {H : Heap} {bt bt2 : Nat} (e6 : env.val 6 = .func (.func 52) #[] #[.pointer (some ⟨bt, 0, none⟩)]) (e7 : env.val 7 = .func (.func 54) #[] #[.pointer (some ⟨bt2, 0, none⟩)]) :
    ∃ e, evCode Try.prog call lf 160 none (cAt Try.f7 [1, 1, 1, 1, 0]) env [] H = some (.normal, e, [], H) ∧ e.val 2 = env.val 2 ∧ e.val 3 = env.val 3 ∧ e.val 4 = env.val 4 ∧ e.val 5 = env.val 5 ∧ e.val 6 = env.val 6 ∧ e.val 7 = env.val 7 := by
  generalize hr : evCode Try.prog call lf 160 none (cAt Try.f7 [1, 1, 1, 1, 0]) env [] H = out
  simp [Try.f7, e6, e7, eqA, Try.underlying45, Try.underlying49] at hr
  subst hr
  exact ⟨_, rfl, by simp, by simp, by simp, by simp, by simp [e6], by simp [e7]⟩
def keepG (env e : Env) : Prop := e.val 2 = env.val 2 ∧ e.val 3 = env.val 3 ∧ e.val 4 = env.val 4 ∧ e.val 5 = env.val 5 ∧ e.val 6 = env.val 6 ∧ e.val 7 = env.val 7
theorem keepG.trans {a b c : Env} (h : keepG a b) (k : keepG b c) : keepG a c := ⟨k.1.trans h.1, k.2.1.trans h.2.1, k.2.2.1.trans h.2.2.1, k.2.2.2.1.trans h.2.2.2.1, k.2.2.2.2.1.trans h.2.2.2.2.1, k.2.2.2.2.2.trans h.2.2.2.2.2⟩
theorem f_R7 {call : CallF} {lf : Nat} {env : Env} {H : Heap} : ∃ e, evCode Try.prog call lf 160 none (cAt Try.f7 [1, 1, 1, 1, 1, 0, 0]) env [] H = some (.normal, e, [], H) ∧ keepG env e ∧ e.val 8 = .int .i64 (0 : Nat) := by
  generalize hr : evCode Try.prog call lf 160 none (cAt Try.f7 [1, 1, 1, 1, 1, 0, 0]) env [] H = out
  simp [Try.f7] at hr
  subst hr
  exact ⟨_, rfl, by simp [keepG], by simp⟩

/-! the copy is overwritten -/
def pWz : List Nat := [1, 1, 1, 1, 1, 0, 1, 0, 0]
def nodeZ : List Value := [.int .i64 13, .int .i64 9, .slice none 0 0]
theorem f_wexit {call : CallF} {lf : Nat} {env : Env} {K : Heap} {b5 i : Nat} {v : Value} {cs : List (List Value)} (e5 : env.val 5 = .pointer (some ⟨b5, 0, none⟩)) (e8 : env.val 8 = .int .i64 i) (ld : loadA Try.prog 22 K b5 1 = some v) (hv : rdS K 3 v = some cs) (hi : cs.length ≤ i) :
    ∃ e, evCode Try.prog call lf 160 none (cAt Try.f7 pWz) env [] K = some (.exit 0, e, [], K) ∧ keepG env e := by
  have c1 : ¬ (i : Int) < (cs.length : Int) := by omega
  have hb := len_of (H' := K) (P := Try.prog) (t := 22) hv Try.underlying22
  generalize hr : evCode Try.prog call lf 160 none (cAt Try.f7 pWz) env [] K = out
  simp [pWz, Try.f7, e5, e8, ld, hb, c1] at hr
  subst hr
  exact ⟨_, rfl, by simp [keepG, e5]⟩
theorem built40z : Try.prog.built 40 [(0, .int .i64 13), (1, .int .i64 9)] = some #[.int .i64 13, .int .i64 9, .slice none 0 0] := by kernel_rfl
theorem f_wstep {call : CallF} {lf : Nat} {env : Env} {K K2 : Heap} {b5 i : Nat} {v : Value} {cs : List (List Value)} (e5 : env.val 5 = .pointer (some ⟨b5, 0, none⟩)) (e8 : env.val 8 = .int .i64 i) (ld : loadA Try.prog 22 K b5 1 = some v) (hv : rdS K 3 v = some cs) (hi : i < cs.length) (hn : cs.length ≤ 1073741824)
    (st : storeA Try.prog 40 K (blk v) (offs v + i * 3) (.agg #[.int .i64 13, .int .i64 9, .slice none 0 0]) = some K2) :
    ∃ e, evCode Try.prog call lf 160 none (cAt Try.f7 pWz) env [] K = some (.normal, e, [], K2) ∧ keepG env e ∧ e.val 8 = .int .i64 ((i + 1 : Nat) : Int) := by
  have c1 : (i : Int) < (cs.length : Int) := by omega
  have w1 : IntKind.i64.wrap ((i : Int) + 1) = (i : Int) + 1 := wrapI (by omega) (by omega)
  have hb := len_of (H' := K) (P := Try.prog) (t := 22) hv Try.underlying22
  have ix := rdS_index hv Try.underlying22 info40 size40 (n := (i : Int)) (by omega) (by omega)
  simp only [Int.toNat_natCast] at ix
  generalize hr : evCode Try.prog call lf 160 none (cAt Try.f7 pWz) env [] K = out
  simp [pWz, Try.f7, e5, e8, ld, hb, c1, built40z, ix, st, w1] at hr
  subst hr
  exact ⟨_, rfl, by simp [keepG, e5], by simp⟩
theorem storeZ {H : Heap} {b : Nat} {cs : List (List Value)} {i : Nat} (h : H.get b = some (.cells true 3 cs.flatten)) (hl : ∀ c ∈ cs, c.length = 3) (hi : i < cs.length) :
    storeA Try.prog 40 H b (i * 3) (.agg #[.int .i64 13, .int .i64 9, .slice none 0 0]) = some (H.set b (.cells true 3 (cs.set i nodeZ).flatten)) := by
  simp only [storeA, h, info40, size40, cells_agg]
  rw [if_pos ⟨rfl, by rw [flatten_length cs hl]; omega, by rfl⟩, ← flatten_put cs i nodeZ hl rfl hi]
  rfl
theorem f_wloop {call : CallF} {lf lo b5 : Nat} {K0 : Heap} {p v : Value} (hw0 : K0.Wf) (g5 : K0.get b5 = some (.cells true 2 [p, v])) (ov : v.cells = #[v] ∧ oneC v = true) (nb : blockOf v ≠ some b5) : ∀ (d i m : Nat) (env : Env) (K : Heap) (cs : List (List Value)), d < m → cs.length = i + d → cs.length ≤ 1073741824 → (∀ c ∈ cs, c.length = 3) → Kept K0 K (blockOf v) → rowI 3 lo K cs v →
    env.val 5 = .pointer (some ⟨b5, 0, none⟩) → env.val 8 = .int .i64 i →
    ∃ e K', evLoop Try.prog call lf 160 none (cAt Try.f7 pWz) m env [] K = some (.exit 0, e, [], K') ∧ keepG env e ∧ Kept K0 K' (blockOf v)
  | d, i, 0, env, K, cs, hm, _, _, _, _, _, _, _ => by omega
  | 0, i, m + 1, env, K, cs, hm, hd, hn, hl, hk, hr, e5, e8 => by
    have q5 := hk.of_get hw0 g5 (Ne.symm nb)
    obtain ⟨e, he, k⟩ := f_wexit (call := call) (lf := lf) e5 e8 (by simp [loadA, q5, ov]) (hr.rd hl) (by omega)
    simp only [evLoop_succ, he]
    exact ⟨e, K, rfl, k, hk⟩
  | d + 1, i, m + 1, env, K, cs, hm, hd, hn, hl, hk, hr, e5, e8 => by
    have q5 := hk.of_get hw0 g5 (Ne.symm nb)
    rcases hr with ⟨h1, _⟩ | ⟨b, c, h1, h2, h3, h4, h5⟩
    · rw [h1] at hd; simp at hd
    · have hbl : blk v = b := by rw [h1]; rfl
      have hof : offs v = 0 := by rw [h1]; rfl
      have hrr : rowI 3 lo K cs v := .inr ⟨b, c, h1, h2, h3, h4, h5⟩
      obtain ⟨e, he, k, k8⟩ := f_wstep (call := call) (lf := lf) e5 e8 (by simp [loadA, q5, ov]) (hrr.rd hl) (by omega) hn (by rw [hbl, hof, Nat.zero_add]; exact storeZ h2 hl (by omega))
      have hbv : blockOf v = some b := by rw [h1]; rfl
      have hk' : Kept K0 (K.set b (.cells true 3 (cs.set i nodeZ).flatten)) (blockOf v) := by
        rw [hbv] at hk ⊢
        exact hk.kill h4 _
      obtain ⟨e', K', r, k', hk2⟩ := f_wloop (lo := lo) hw0 g5 ov nb d (i + 1) m e _ (cs.set i nodeZ) (by omega) (by simp; omega) (by simpa using hn) (fun x hx => by
        rcases List.mem_or_eq_of_mem_set hx with h | h
        · exact hl x h
        · rw [h]; rfl) hk' (.inr ⟨b, c, by rw [h1]; simp, get_set_self _ _ _, h3, by rw [Heap.next_set]; exact h4, (by
        rcases h5 with ⟨h5, _⟩ | h5
        · rw [h5] at hd; simp at hd
        · exact .inr h5)⟩) (k.2.2.2.1.trans e5) k8
      simp only [evLoop_succ, he]
      exact ⟨e', K', r, k.trans k', hk2⟩
end Go.Proofs.Ytpopkajkekceiaa

namespace Go.Proofs.Ytpopkajkekceiaa
open Go Go.Abs
set_option maxRecDepth 100000
set_option linter.unusedSimpArgs false
set_option linter.unusedVariables false

theorem f_R11 {call : CallF} {lf : Nat} {env : Env} {H K1 K2 : Heap} {b2 : Nat} {va w1 w2 : Value} (e2 : env.val 2 = .pointer (some ⟨b2, 0, none⟩))
    (l2 : loadA Try.prog 24 ((H.push (.cells true 1 [.slice none 0 0])).push (.cells true 1 [.slice none 0 0])) b2 0 = some va) (l2' : loadA Try.prog 24 K1 b2 0 = some va) (l2'' : loadA Try.prog 24 K2 b2 0 = some va)
    (hc1 : call (.fn 24 [va]) ((H.push (.cells true 1 [.slice none 0 0])).push (.cells true 1 [.slice none 0 0])) = some (.ret w1, K1)) (hc2 : call (.fn 25 [va]) K1 = some (.ret w2, K2))
    (z0 : K1.get H.next = some (.cells true 1 [.slice none 0 0])) (z1 : K1.get (H.next + 1) = some (.cells true 1 [.slice none 0 0])) (z0' : K2.get H.next = some (.cells true 1 [.slice none 0 0])) (z1' : K2.get (H.next + 1) = some (.cells true 1 [.slice none 0 0]))
    (o1 : w1.cells = #[w1] ∧ oneC w1 = true) (o2 : w2.cells = #[w2] ∧ oneC w2 = true) (ea : eqV va va = true) (q1 : eqV w1 w1 = true) (q2 : eqV w2 w2 = true) :
    ∃ e, evCode Try.prog call lf 160 none (cAt Try.f7 [1, 1, 1, 1, 1, 1, 0]) env [] H = some (.normal, e, [], (K2.set H.next (.cells true 1 [w1])).set (H.next + 1) (.cells true 1 [w2])) ∧ e.val 2 = env.val 2 ∧ e.val 3 = env.val 3 ∧ e.val 4 = env.val 4 ∧ e.val 6 = env.val 6 ∧ e.val 7 = env.val 7 ∧ e.val 9 = .pointer (some ⟨H.next, 0, none⟩) ∧ e.val 10 = .pointer (some ⟨H.next + 1, 0, none⟩) := by
  have y0 : ((H.push (.cells true 1 [.slice none 0 0])).push (.cells true 1 [.slice none 0 0])).get H.next = some (.cells true 1 [.slice none 0 0]) := by
    rw [get_push_ne (by simp), get_push_self]
  have y1 : ((H.push (.cells true 1 [.slice none 0 0])).push (.cells true 1 [.slice none 0 0])).get (H.next + 1) = some (.cells true 1 [.slice none 0 0]) := get_push_self _ _
  have s1 : storeA Try.prog 38 K2 H.next 0 w1 = some (K2.set H.next (.cells true 1 [w1])) := by
    simp [storeA, z0', o1.1, o1.2, putL]
  have z2 : (K2.set H.next (.cells true 1 [w1])).get (H.next + 1) = some (.cells true 1 [.slice none 0 0]) := by rw [get_set_ne (by omega)]; exact z1'
  have s2 : storeA Try.prog 52 (K2.set H.next (.cells true 1 [w1])) (H.next + 1) 0 w2 = some ((K2.set H.next (.cells true 1 [w1])).set (H.next + 1) (.cells true 1 [w2])) := by
    simp [storeA, z2, o2.1, o2.2, putL]
  generalize hr : evCode Try.prog call lf 160 none (cAt Try.f7 [1, 1, 1, 1, 1, 1, 0]) env [] H = out
  simp [Try.f7] at hr
  rw [evDraw_held (tab := [(2, [1])]) (atab := [(0, (38, [1, 3, 6])), (1, (52, [1, 3, 6]))]) (al := [(4, (9, 38)), (5, (10, 52))])] at hr
  · simp [e2, l2, l2', l2'', callA, hc1, hc2, y0, y1, z0, z1, z0', z1', z2, s1, s2, ea, q1, q2] at hr
    subst hr
    exact ⟨_, rfl, by simp [e2], by simp, by simp, by simp, by simp, by simp, by simp⟩
  · kernel_rfl
  · kernel_rfl
  · kernel_rfl
  · kernel_rfl
  · kernel_rfl
theorem f_R12 {call : CallF} {lf : Nat} {env : Env} {H : Heap} :
    ∃ e, evCode Try.prog call lf 160 none (cAt Try.f7 [1, 1, 1, 1, 1, 1, 1, 0, 0]) env [] H = some (.normal, e, [], (H.push (.cells true 1 [.int .i64 0])).set H.next (.cells true 1 [.int .i64 0])) ∧ keepU env e ∧ e.val 11 = .pointer (some ⟨H.next, 0, none⟩) := by
  have st := store1i (H := H.push (.cells true 1 [.int .i64 0])) (b := H.next) (v := 0) (get_push_self _ _)
  generalize hr : evCode Try.prog call lf 160 none (cAt Try.f7 [1, 1, 1, 1, 1, 1, 1, 0, 0]) env [] H = out
  simp [Try.f7, st] at hr
  subst hr
  exact ⟨_, rfl, by simp [keepU], by simp⟩
theorem f_R35 {call : CallF} {lf : Nat} {env : Env} {ds : List ADef} {H : Heap} {b4 : Nat} (e4 : env.val 4 = .pointer (some ⟨b4, 0, none⟩)) (g4 : H.get b4 = some (.cells true 1 [.bool false])) (hw : call (.fn 10 []) H = some (.ret (.bool true), H)) :
    ∃ e, evCode Try.prog call lf 160 none (cAt Try.f7 [1, 1, 1, 1, 1, 1, 1, 1]) env ds H = some (.ret, e, ds, H.set b4 (.cells true 1 [.bool true])) ∧ e.val 4 = env.val 4 := by
  have st := store4 (y := true) g4
  generalize hr : evCode Try.prog call lf 160 none (cAt Try.f7 [1, 1, 1, 1, 1, 1, 1, 1]) env ds H = out
  simp [Try.f7, e4, callA, hw, st] at hr
  subst hr
  exact ⟨_, rfl, by simp [e4]⟩
theorem f_leave {call : CallF} {lf : Nat} {env : Env} {H : Heap} {b4 : Nat} {b : Bool} (e4 : env.val 4 = .pointer (some ⟨b4, 0, none⟩)) (g4 : H.get b4 = some (.cells true 1 [.bool b])) :
    fnEnd Try.prog call lf Try.f7 (some (.ret, env, [], H)) = some (.ret (.bool b), H) := by
  have ld : loadA Try.prog 4 H b4 0 = some (.bool b) := by simp [loadA, g4]
  simp [fnEnd, Try.f7, e4, ld]
theorem f_leave4 {call : CallF} {lf : Nat} {env : Env} {H : Heap} {b4 d1 d2 d3 d4 : Nat} {b : Bool} (e4 : env.val 4 = .pointer (some ⟨b4, 0, none⟩)) (g4 : H.get b4 = some (.cells true 1 [.bool b])) (g1 : H.get d1 = some .defs) (g2 : H.get d2 = some .defs) (g3 : H.get d3 = some .defs) (gd : H.get d4 = some .defs) (h0 : b4 < d1) (h1 : d1 < d2) (h2 : d2 < d3) (h3 : d3 < d4) :
    ∃ H', fnEnd Try.prog call lf Try.f7 (some (.ret, env, [.mark d4, .mark d3, .mark d2, .mark d1], H)) = some (.ret (.bool b), H') := by
  have a3 : (H.set d4 .dead).get d3 = some .defs := by rw [get_set_ne (by omega)]; exact g3
  have a2 : ((H.set d4 .dead).set d3 .dead).get d2 = some .defs := by rw [get_set_ne (by omega), get_set_ne (by omega)]; exact g2
  have a1 : (((H.set d4 .dead).set d3 .dead).set d2 .dead).get d1 = some .defs := by rw [get_set_ne (by omega), get_set_ne (by omega), get_set_ne (by omega)]; exact g1
  have ld : loadA Try.prog 4 ((((H.set d4 .dead).set d3 .dead).set d2 .dead).set d1 .dead) b4 0 = some (.bool b) := by
    rw [loadA_set (by omega), loadA_set (by omega), loadA_set (by omega), loadA_set (by omega)]
    simp [loadA, g4]
  exact ⟨(((H.set d4 .dead).set d3 .dead).set d2 .dead).set d1 .dead, by simp [fnEnd, Try.f7, e4, gd, a3, a2, a1, ld]⟩
end Go.Proofs.Ytpopkajkekceiaa

namespace Go.Proofs.Ytpopkajkekceiaa
open Go Go.Abs
set_option maxRecDepth 100000
set_option linter.unusedSimpArgs false
set_option linter.unusedVariables false

theorem growI.set {lo c : Nat} {H : Heap} {xs : List Int} {v : Value} {o : AObj} (h : growI lo H xs v) (hc : c < lo) : growI lo (H.set c o) xs v := by
  rcases h with h | ⟨b, h1, h2, h3, h4⟩
  · exact .inl h
  · exact .inr ⟨b, h1, by rw [get_set_ne (by omega)]; exact h2, h3, by simpa using h4⟩
theorem growP.set {lo c : Nat} {H : Heap} {xs : List (Int × Int)} {v : Value} {o : AObj} (h : growP lo H xs v) (hc : c < lo) : growP lo (H.set c o) xs v := by
  rcases h with h | ⟨b, h1, h2, h3, h4⟩
  · exact .inl h
  · exact .inr ⟨b, h1, by rw [get_set_ne (by omega)]; exact h2, h3, by simpa using h4⟩
theorem growP.rd {lo : Nat} {H : Heap} {xs : List (Int × Int)} {v : Value} (h : growP lo H xs v) : rdS H 2 v = some (xs.map pairC) := by
  rcases h with ⟨rfl, rfl⟩ | ⟨b, rfl, h2, h3, h4⟩
  · rfl
  · have := rd_of_cells h2 (pairs_len2 xs)
    rwa [List.length_map] at this
theorem growP.over {lo : Nat} {H K : Heap} {x : Option Nat} {xs : List (Int × Int)} {v : Value} (h : growP lo H xs v) (k : Kept H K x) (hx : ∀ b, x = some b → b < lo) : growP lo K xs v := by
  rcases h with h | ⟨b, h1, h2, h3, h4⟩
  · exact .inl h
  · have hne : some b ≠ x := fun e => by have := hx b e.symm; omega
    exact .inr ⟨b, h1, by rw [k.get b h4 hne]; exact h2, h3, Nat.lt_of_lt_of_le h4 k.le⟩
theorem growI.one {lo : Nat} {H : Heap} {xs : List Int} {v : Value} (h : growI lo H xs v) : v.cells = #[v] ∧ oneC v = true ∧ eqV v v = true := by
  obtain ⟨a, b, c, _⟩ := rdS_one (rdInts_rd h.row.ints)
  exact ⟨a, b, c⟩
theorem growP.one {lo : Nat} {H : Heap} {xs : List (Int × Int)} {v : Value} (h : growP lo H xs v) : v.cells = #[v] ∧ oneC v = true ∧ eqV v v = true := by
  obtain ⟨a, b, c, _⟩ := rdS_one h.rd
  exact ⟨a, b, c⟩

/-- The row. -/
theorem orders_run {H : Heap} {v : Value} {f : FunD} {many : Int} (hw : H.Wf) (hf : rdFun H v = some f) : ∃ lf H', evFn Try.prog (call7 lf) lf 7 [v, .int .i64 many] H = some (.ret (.bool true), H') := by
  refine ⟨roomOf f + 400, ?_⟩
  obtain ⟨rm1, rm2⟩ := roomOf_node f
  obtain ⟨s, cs, rfl, os, ns⟩ := rdFun_nodes hf
  have hlf : 400 ≤ roomOf f + 400 := by omega
  have rm1' : f.nodes.length < roomOf f + 400 := by omega
  have rm2' : ∀ x ∈ f.nodes, x.l.length < roomOf f + 400 := fun x hx => by have := rm2 x hx; omega
  generalize roomOf f + 400 = lf at *
  obtain ⟨a0, r0, e2, e3, e4⟩ := f_R0 (call := call7 lf) (lf := lf) (H := H) (p := f.params) (many := many) os
  have k1 := (((Kept.refl hw none).push (.cells true 2 [.int .i64 f.params, s])).push (.cells true 1 [.int .i64 many])).push (.cells true 1 [.bool false])
  have g2 : (((H.push (.cells true 2 [.int .i64 f.params, s])).push (.cells true 1 [.int .i64 many])).push (.cells true 1 [.bool false])).get H.next = some (.cells true 2 [.int .i64 f.params, s]) := by
    rw [get_push_ne (by simp; omega), get_push_ne (by simp), get_push_self]
  have g3 : (((H.push (.cells true 2 [.int .i64 f.params, s])).push (.cells true 1 [.int .i64 many])).push (.cells true 1 [.bool false])).get (H.next + 1) = some (.cells true 1 [.int .i64 many]) := by
    rw [get_push_ne (by simp)]
    exact get_push_self (H.push _) _
  have g4 : (((H.push (.cells true 2 [.int .i64 f.params, s])).push (.cells true 1 [.int .i64 many])).push (.cells true 1 [.bool false])).get (H.next + 1 + 1) = some (.cells true 1 [.bool false]) := get_push_self ((H.push _).push _) _
  have hnx : (((H.push (.cells true 2 [.int .i64 f.params, s])).push (.cells true 1 [.int .i64 many])).push (.cells true 1 [.bool false])).next = H.next + 3 := rfl
  generalize ((H.push (.cells true 2 [.int .i64 f.params, s])).push (.cells true 1 [.int .i64 many])).push (.cells true 1 [.bool false]) = H1 at *
  have hf1 := rdFun_ext (k1.ext hw) hf
  have n1 := ns.ext (k1.ext hw)
  have l2 : ∀ {K : Heap}, Ext H1 K → loadA Try.prog 24 K H.next 0 = some (.agg #[.int .i64 f.params, s]) := fun h => by simp [loadA, h _ _ g2]
  obtain ⟨q1, q2⟩ := f_R1 (lf := lf) (env := a0) (l2 (Ext.refl H1)) g4 (call7_few hf1) call7_works e2 e4
  have start : ∀ {o : Out}, evCode Try.prog (call7 lf) lf 160 none (cAt Try.f7 [1]) a0 [] H1 = some o → evFn Try.prog (call7 lf) lf 7 [.agg #[.int .i64 f.params, s], .int .i64 many] H = fnEnd Try.prog (call7 lf) lf Try.f7 (some o) := fun ho => by
    rw [evFn_at Try.func7 body7 (by simp), Try.ntmps7, ev_then (c := cAt Try.f7 []) (b := cAt Try.f7 [1]) rfl r0, ho]
  cases hfew : fewL f with
  | false =>
    obtain ⟨a1, r1, m4⟩ := q2 hfew
    exact ⟨_, (start (ev_stop (c := cAt Try.f7 [1]) (a := cAt Try.f7 [1, 0]) (b := cAt Try.f7 [1, 1]) rfl r1 (by intro e; cases e))).trans (f_leave (m4.trans e4) (get_set_self _ _ _))⟩
  | true =>
    obtain ⟨a1, r1, m2, m3, m4⟩ := q1 hfew
    obtain ⟨fl1, fl2⟩ := few_len hfew
    have ff : fits f := fun x hx => by have := fl2 x hx; omega
    -- the copy
    obtain ⟨sg, K, ss, src, lo, lo2, c22, kK, hlo, hlo2, hI⟩ := copy_run (call := evWith Try.prog lf c8 1) (lf := lf) k1.wf hf1 (by omega) (fun x hx => by have := fl2 x hx; omega) rm1' (c0 := callOf c8) (fun s K => with8_35) (fun s K => with8_36)
    have og := rdS_one hI.nodes.1
    have c22' : call7 lf (.fn 22 [.agg #[.int .i64 f.params, s]]) H1 = _ := (call7_fn (by decide) (by decide)).trans c22
    obtain ⟨a2, r2, p2, p3, p4, p5⟩ := f_R3 (lf := lf) (env := a1) (m2.trans e2) (l2 (Ext.refl H1)) c22' og.2.1
    have kH2 : Kept K ((K.push (.cells true 2 [.int .i64 0, .slice none 0 0])).set K.next (.cells true 2 [.int .i64 f.params, sg])) none := ((Kept.refl kK.wf none).push _).set (Nat.le_refl _) (by simp) _
    have g5 : ((K.push (.cells true 2 [.int .i64 0, .slice none 0 0])).set K.next (.cells true 2 [.int .i64 f.params, sg])).get K.next = some (.cells true 2 [.int .i64 f.params, sg]) := get_set_self _ _ _
    have hn2 : ((K.push (.cells true 2 [.int .i64 0, .slice none 0 0])).set K.next (.cells true 2 [.int .i64 f.params, sg])).next = K.next + 1 := rfl
    generalize (K.push (.cells true 2 [.int .i64 0, .slice none 0 0])).set K.next (.cells true 2 [.int .i64 f.params, sg]) = H2 at *
    have x2 : Ext H1 H2 := (kK.trans kH2).ext k1.wf
    have hg2 : rdFun H2 (.agg #[.int .i64 f.params, sg]) = some f := rdFun_of (hI.nodes.ext (kH2.ext kK.wf))
    have egg : eqV (.agg #[.int .i64 f.params, sg]) (.agg #[.int .i64 f.params, sg]) = true := by
      simp [eqV, og.2.2.2]
    have ess : eqV (.agg #[.int .i64 f.params, s]) (.agg #[.int .i64 f.params, s]) = true := by
      simp [eqV, (rdS_one ns.1).2.2.2]
    -- Order and Calls
    obtain ⟨bt, wo, K1, c21, xK1, wK1, leK1, btl, gt, hgo, hol, hl200, hpl⟩ := order7 (lf := lf) kH2.wf (rdFit_of hg2 ff) (by omega)
    have c21' : call7 lf (.fn 21 [.agg #[.int .i64 f.params, sg]]) H2 = _ := (call7_fn (by decide) (by decide)).trans c21
    obtain ⟨bt2, wc, K2, c23, kK2, bt2l, bt2n, gt2, hgc⟩ := calls_run (lf := lf) wK1 (rdFit_of (rdFun_ext xK1 hg2) ff) (by omega) (fun x hx => by have := fl2 x hx; omega) rm1'
    have c23' : call7 lf (.fn 23 [.agg #[.int .i64 f.params, sg]]) K1 = _ := (call7_fn (by decide) (by decide)).trans c23
    have lg : ∀ {K' : Heap}, Ext H2 K' → loadA Try.prog 24 K' K.next 0 = some (.agg #[.int .i64 f.params, sg]) := fun h => by simp [loadA, h _ _ g5]
    obtain ⟨a3, r3, t2, t3, t4, t5, t6, t7⟩ := f_R4 (lf := lf) (env := a2) p5 (lg (Ext.refl H2)) (lg xK1) c21' c23' egg
    obtain ⟨a4, r4, u2, u3, u4, u5, u6, u7⟩ := f_R5 (call := call7 lf) (lf := lf) (H := K2) t6 t7
    obtain ⟨a5, r5, G5, v8⟩ := f_R7 (call := call7 lf) (lf := lf) (env := a4) (H := K2)
    have x12 : Ext H2 K2 := xK1.trans (kK2.ext wK1)
    have hvb : ∀ b, blockOf sg = some b → lo ≤ b ∧ b < K.next := hI.row.blk
    have hrow2 : rowI 3 lo K2 (List.zipWith nodeC f.nodes ss) sg := by
      refine hI.row.keep (by have := kH2.le; have := kK2.le; omega) fun b hb => ?_
      rcases hI.row with ⟨_, h⟩ | ⟨b', c, h1, h2, _⟩
      · rw [h] at hb; cases hb
      · rw [h1] at hb; cases hb
        rw [h2]
        exact (((kH2.ext kK.wf).trans x12) _ _ h2)
    obtain ⟨a6, K3, r6, G6, kK3⟩ := f_wloop (call := call7 lf) (lf := lf) (lo := lo) (b5 := K.next) kK2.wf (x12 _ _ g5) ⟨og.1, og.2.1⟩ (fun e => by have := hvb _ e; omega) f.nodes.length 0 lf a5 K2 (List.zipWith nodeC f.nodes ss) rm1' (by simp [hI.len]) (by simp [hI.len]; omega) (nodeC_len _ _) (Kept.refl kK2.wf _) hrow2 (G5.2.2.2.1.trans (u5.trans (t5.trans p5))) v8
    have G46 := G5.trans G6
    -- what stays
    have x3 : Ext H1 K3 := by
      intro b ob hb
      have hbl := k1.wf.lt hb
      refine kK3.of_get kK2.wf (x12 _ _ (x2 _ _ hb)) fun e => ?_
      have := hvb b e.symm
      omega
    have hf3 := rdFun_ext x3 hf1
    have gt3 : K3.get bt = some (.cells true 1 [wo]) := kK3.of_get kK2.wf (kK2.of_get wK1 gt (by simp)) fun e => by have := hvb bt e.symm; omega
    have gt23 : K3.get bt2 = some (.cells true 1 [wc]) := kK3.of_get kK2.wf gt2 fun e => by have := hvb bt2 e.symm; omega
    have hgo3 : growP H2.next K3 (ordRows f (ordL f)) wo := (hgo.keep kK2).over kK3 fun b hb => by have := hvb b hb; omega
    have hgc3 : growP K1.next K3 (callsL f) wc := hgc.over kK3 fun b hb => by have := hvb b hb; omega
    have wK3 := kK3.wf
    -- the reference's
    have kA := ((Kept.refl wK3 none).push (.cells true 1 [.slice none 0 0])).push (.cells true 1 [.slice none 0 0])
    have hnA : ((K3.push (.cells true 1 [.slice none 0 0])).push (.cells true 1 [.slice none 0 0])).next = K3.next + 2 := rfl
    have yA0 : ((K3.push (.cells true 1 [.slice none 0 0])).push (.cells true 1 [.slice none 0 0])).get K3.next = some (.cells true 1 [.slice none 0 0]) := by
      rw [get_push_ne (by simp), get_push_self]
    have yA1 : ((K3.push (.cells true 1 [.slice none 0 0])).push (.cells true 1 [.slice none 0 0])).get (K3.next + 1) = some (.cells true 1 [.slice none 0 0]) := get_push_self _ _
    obtain ⟨w1, K4, c24, k4, hg1⟩ := reforder_run (lf := lf) (k := 300) kA.wf (rdFit_of (rdFun_ext (kA.ext wK3) hf3) ff) rm2' fl1 hpl
    have c24' : call7 lf (.fn 24 [.agg #[.int .i64 f.params, s]]) _ = _ := (call7_fn (by decide) (by decide)).trans c24
    have kA4 := kA.trans k4
    obtain ⟨w2, K5, c25, k5, hg2'⟩ := refcalls_run (call := callOf [rightC, namesC]) (lf := lf) k4.wf (rdFit_of (rdFun_ext (kA4.ext wK3) hf3) ff) rm1' (by omega) (fun H v h => right_hit h) (fun H op => by rw [callOf_miss (by decide)]; exact callOf_hit rfl rfl)
    have c25' : call7 lf (.fn 25 [.agg #[.int .i64 f.params, s]]) K4 = _ := (call7_fn (by decide) (by decide)).trans c25
    have o1 := hg1.one
    have o2 := hg2'.one
    obtain ⟨a7, r7, z2, z3, z4, z6, z7, z9, z10⟩ := f_R11 (lf := lf) (env := a6) (G46.1.trans (u2.trans (t2.trans (p2.trans (m2.trans e2))))) (l2 (x3.trans (kA.ext wK3))) (l2 (x3.trans (kA4.ext wK3))) (l2 (x3.trans ((kA4.trans k5).ext wK3))) c24' c25'
      (k4.of_get kA.wf yA0 (by simp)) (k4.of_get kA.wf yA1 (by simp)) (k5.of_get k4.wf (k4.of_get kA.wf yA0 (by simp)) (by simp)) (k5.of_get k4.wf (k4.of_get kA.wf yA1 (by simp)) (by simp)) ⟨o1.1, o1.2.1⟩ ⟨o2.1, o2.2.1⟩ ess o1.2.2 o2.2.2
    have le4 := k4.le
    have le5 := k5.le
    have k6 : Kept K3 ((K5.set K3.next (.cells true 1 [w1])).set (K3.next + 1) (.cells true 1 [w2])) none := ((kA4.trans k5).set (Nat.le_refl _) (by omega) _).set (by omega) (by simp; omega) _
    have g9 : ((K5.set K3.next (.cells true 1 [w1])).set (K3.next + 1) (.cells true 1 [w2])).get K3.next = some (.cells true 1 [w1]) := by rw [get_set_ne (by omega), get_set_self]
    have g10 : ((K5.set K3.next (.cells true 1 [w1])).set (K3.next + 1) (.cells true 1 [w2])).get (K3.next + 1) = some (.cells true 1 [w2]) := get_set_self _ _ _
    have h9 : growI (K3.next + 2) ((K5.set K3.next (.cells true 1 [w1])).set (K3.next + 1) (.cells true 1 [w2])) (natsL (ordL f)) w1 := (((hg1.keep k5).low (by omega)).set (by omega)).set (by omega)
    have h10 : growP (K3.next + 2) ((K5.set K3.next (.cells true 1 [w1])).set (K3.next + 1) (.cells true 1 [w2])) (callsL f) w2 := ((hg2'.low (by omega)).set (by omega)).set (by omega)
    have hn6 : ((K5.set K3.next (.cells true 1 [w1])).set (K3.next + 1) (.cells true 1 [w2])).next = K5.next := rfl
    generalize (K5.set K3.next (.cells true 1 [w1])).set (K3.next + 1) (.cells true 1 [w2]) = H6 at *
    -- the turns
    obtain ⟨a8, r8, G8, z11⟩ := f_R12 (call := call7 lf) (lf := lf) (env := a7) (H := H6)
    have k7 : Kept H6 ((H6.push (.cells true 1 [.int .i64 0])).set H6.next (.cells true 1 [.int .i64 0])) none := ((Kept.refl k6.wf none).push _).set (Nat.le_refl _) (by simp) _
    have g11 : ((H6.push (.cells true 1 [.int .i64 0])).set H6.next (.cells true 1 [.int .i64 0])).get H6.next = some (.cells true 1 [.int .i64 0]) := get_set_self _ _ _
    generalize (H6.push (.cells true 1 [.int .i64 0])).set H6.next (.cells true 1 [.int .i64 0]) = H7 at *
    have x7 : Ext H1 H7 := x3.trans ((k6.trans k7).ext wK3)
    have F : OFix H7 f H.next (H.next + 1) K3.next (K3.next + 1) H6.next s w1 w2 cs (natsL (ordL f)) (callsL f) 0 many :=
      ⟨k7.wf, x7 _ _ g2, x7 _ _ g3, k7.of_get k6.wf g9 (by simp), k7.of_get k6.wf g10 (by simp), g11, n1.ext x7, (h9.keep k7).row.ints, (h10.keep k7).rd, .inl rfl⟩
    have E2 := G8.1.trans (z2.trans (G46.1.trans (u2.trans (t2.trans (p2.trans (m2.trans e2))))))
    have E3 := G8.2.1.trans (z3.trans (G46.2.1.trans (u3.trans (t3.trans (p3.trans (m3.trans e3))))))
    have E4 := G8.2.2.1.trans (z4.trans (G46.2.2.1.trans (u4.trans (t4.trans (p4.trans (m4.trans e4))))))
    have E6 := G8.2.2.2.1.trans (z6.trans (G46.2.2.2.2.1.trans (u6.trans t6)))
    have E7 := G8.2.2.2.2.1.trans (z7.trans (G46.2.2.2.2.2.trans (u7.trans t7)))
    have hcl : (callsL f).length ≤ 300 := by
      unfold callsL
      split
      · exact Nat.le_trans (callsFrom_len _ _) fl1
      · simp
    obtain ⟨a9, H8, d1, d2, d3, d4, r9, G9, k8, gd1, gd2, gd3, gd4, o1', o2', o3', o4'⟩ := turns_run (call := call7 lf) (c5 := ev1 Try.prog (fun _ _ => none) lf) (c0 := fun _ _ => none) (lf := lf) F (k7.of_get k6.wf (k6.of_get wK3 gt3 (by simp)) (by simp)) ((hgo3.keep k6).keep k7) (k7.of_get k6.wf (k6.of_get wK3 gt23 (by simp)) (by simp)) ((hgc3.keep k6).keep k7)
      hol (by omega) (by omega) (by omega) (by omega) (by omega) (fun args H => (call7_fn (by decide) (by decide)).trans rfl) (fun args H => (call7_fn (by decide) (by decide)).trans rfl) (fun l args H => rfl) E2 E3 E6 E7 (G8.2.2.2.2.2.1.trans z9) (G8.2.2.2.2.2.2.trans z10) z11
    have x8 : Ext H1 H8 := x7.trans (k8.ext k7.wf)
    obtain ⟨a10, r10, w4⟩ := f_R35 (lf := lf) (env := a9) (ds := [.mark d4, .mark d3, .mark d2, .mark d1]) (G9.2.2.1.trans E4) (x8 _ _ g4) (call7_works (lf := lf))
    have hd1 : H.next + 1 + 1 < d1 := by
      have a := k1.wf.lt g4
      have b := (x3 _ _ g4)
      have c := wK3.lt b
      have d := k6.le
      have e := k7.le
      omega
    obtain ⟨H9, hend⟩ := f_leave4 (call := call7 lf) (lf := lf) (env := a10) (H := H8.set (H.next + 1 + 1) (.cells true 1 [.bool true])) (b4 := H.next + 1 + 1) (d1 := d1) (d2 := d2) (d3 := d3) (d4 := d4) (b := true) (w4.trans (G9.2.2.1.trans E4)) (get_set_self _ _ _) (by rw [get_set_ne (by omega)]; exact gd1) (by rw [get_set_ne (by omega)]; exact gd2) (by rw [get_set_ne (by omega)]; exact gd3) (by rw [get_set_ne (by omega)]; exact gd4) hd1 o2' o3' o4'
    refine ⟨H9, (start ?_).trans hend⟩
    have hmu : evCode Try.prog (call7 lf) lf 160 none (cAt Try.f7 [1, 1, 1, 1, 1, 0]) a4 [] K2 = some (.normal, a6, [], K3) := by
      rw [ev_then (c := cAt Try.f7 [1, 1, 1, 1, 1, 0]) (b := cAt Try.f7 [1, 1, 1, 1, 1, 0, 1]) rfl r5, show cAt Try.f7 [1, 1, 1, 1, 1, 0, 1] = .block 0 (.loop (cAt Try.f7 pWz)) from rfl, evCode_block, evCode_loop, r6]
      rfl
    have htu : evCode Try.prog (call7 lf) lf 160 none (cAt Try.f7 [1, 1, 1, 1, 1, 1, 1, 0]) a7 [] H6 = some (.normal, a9, [.mark d4, .mark d3, .mark d2, .mark d1], H8) := by
      rw [ev_then (c := cAt Try.f7 [1, 1, 1, 1, 1, 1, 1, 0]) (b := cAt Try.f7 [1, 1, 1, 1, 1, 1, 1, 0, 1]) rfl r8, show cAt Try.f7 [1, 1, 1, 1, 1, 1, 1, 0, 1] = .block 2 (.loop (cAt Try.f7 pU)) from rfl, evCode_block, evCode_loop, r9]
      rfl
    rw [ev_then (c := cAt Try.f7 [1]) (b := cAt Try.f7 [1, 1]) rfl r1, ev_then (c := cAt Try.f7 [1, 1]) (b := cAt Try.f7 [1, 1, 1]) rfl r2, ev_then (c := cAt Try.f7 [1, 1, 1]) (b := cAt Try.f7 [1, 1, 1, 1]) rfl r3, ev_then (c := cAt Try.f7 [1, 1, 1, 1]) (b := cAt Try.f7 [1, 1, 1, 1, 1]) rfl r4,
      ev_then (c := cAt Try.f7 [1, 1, 1, 1, 1]) (b := cAt Try.f7 [1, 1, 1, 1, 1, 1]) rfl hmu, ev_then (c := cAt Try.f7 [1, 1, 1, 1, 1, 1]) (b := cAt Try.f7 [1, 1, 1, 1, 1, 1, 1]) rfl r7, ev_then (c := cAt Try.f7 [1, 1, 1, 1, 1, 1, 1]) (b := cAt Try.f7 [1, 1, 1, 1, 1, 1, 1, 1]) rfl htu, r10]
end Go.Proofs.Ytpopkajkekceiaa
