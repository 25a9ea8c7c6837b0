/-
  A part of a proof: texts laid behind one another (W69, W70, W71, W72, W73, W74, W75, W76).
-/
import Derived.Test.YtpopkajkekceiaaGW8
import Derived.Test.YtpopkajkekceiaaGW6
import Derived.Test.YtpopkajkekceiaaGK
namespace Go.Proofs.Ytpopkajkekceiaa
open Go Go.Abs
set_option maxRecDepth 100000
set_option linter.unusedSimpArgs false
set_option linter.unusedVariables false

/-! ### A copy is turned -/
theorem intsC_flat (l : List Int) : (intsC l).flatten = l.map fun n => .int .i64 n := by
  induction l with
  | nil => rfl
  | cons a l ih => simp only [intsC, List.map_cons, List.flatten_cons] at ih ⊢; rw [ih]; rfl

theorem zip_l {ys : List NodeD} {ss : List Value} {i : Nat} {x : NodeD} {l : List Int} (hx : ys[i]? = some x) : List.zipWith nodeC (ys.set i { x with l := l }) ss = List.zipWith nodeC ys ss := by
  refine List.ext_getElem? fun j => ?_
  rw [List.getElem?_zipWith, List.getElem?_zipWith]
  by_cases hj : j = i
  · subst hj
    rw [List.getElem?_set_self (List.getElem?_eq_some_iff.1 hx).1, hx]
    cases ss[j]? <;> rfl
  · rw [List.getElem?_set_ne (fun e => hj e.symm)]

theorem zip_n {ys : List NodeD} {ss : List Value} {i : Nat} {x : NodeD} {s : Value} {n : Int} (hx : ys[i]? = some x) (hs : ss[i]? = some s) : List.zipWith nodeC (ys.set i { x with n := n }) ss = (List.zipWith nodeC ys ss).set i ((nodeC x s).set 1 (.int .i64 n)) := by
  have hi := (List.getElem?_eq_some_iff.1 hx).1
  have hi2 := (List.getElem?_eq_some_iff.1 hs).1
  refine List.ext_getElem? fun j => ?_
  rw [List.getElem?_zipWith]
  by_cases hj : j = i
  · subst hj
    rw [List.getElem?_set_self hi, hs, List.getElem?_set_self (by simp; omega)]
    rfl
  · rw [List.getElem?_set_ne (fun e => hj e.symm), List.getElem?_set_ne (fun e => hj e.symm), List.getElem?_zipWith]

theorem CI.setL {lo lo2 : Nat} {K : Heap} {ys : List NodeD} {src ss : List Value} {v s : Value} {i k : Nat} {x : NodeD} {y y' : Int} (h : CI lo lo2 K ys src v ys.length ss) (hx : ys[i]? = some x) (hs : ss[i]? = some s) (hy : x.l[k]? = some y) :
    ∃ b c, s = .slice (some ⟨b, 0, none⟩) x.l.length c ∧ K.get b = some (.cells true 1 (x.l.map fun n => .int .i64 n)) ∧ lo2 ≤ b ∧ b < K.next ∧
      CI lo lo2 (K.set b (.cells true 1 ((x.l.set k y').map fun n => .int .i64 n))) (ys.set i { x with l := x.l.set k y' }) src v (ys.set i { x with l := x.l.set k y' }).length ss := by
  have hi := (List.getElem?_eq_some_iff.1 hx).1
  have hk := (List.getElem?_eq_some_iff.1 hy).1
  rcases h.new i x s hi hx hs with ⟨h1, _⟩ | ⟨b, c, h1, h2, h3, h4, h5⟩
  · exfalso
    have := congrArg List.length h1
    simp [intsC] at this
    rw [this] at hk; simp at hk
  · have hlen : (intsC x.l).length = x.l.length := by simp [intsC]
    rw [hlen] at h1
    rw [intsC_flat] at h2
    have hbs : blockOf s = some b := by rw [h1]; rfl
    refine ⟨b, c, h1, h2, h3, h4, ?_⟩
    rw [List.length_set]
    refine ⟨?_, h.vb, h.lok, by rw [List.length_set]; exact h.len, h.old, ?_, h.sep⟩
    · rw [zip_l hx]
      exact h.row.keep (Nat.le_refl _) fun d hd => get_set_ne (by have := h.vb d hd; omega)
    · intro j z t hj hz ht
      by_cases e : j = i
      · subst e
        rw [List.getElem?_set_self hi] at hz
        cases hz
        rw [hs] at ht; cases ht
        refine .inr ⟨b, c, by rw [h1]; simp [intsC], by rw [get_set_self, intsC_flat], h3, h4, ?_⟩
        rcases h5 with ⟨h5, _⟩ | h5
        · exfalso
          have := congrArg List.length h5
          rw [hlen] at this; simp at this
          rw [this] at hk; simp at hk
        · exact .inr h5
      · rw [List.getElem?_set_ne (fun e' => e e'.symm)] at hz
        have hn := h.new j z t hj hz ht
        refine hn.keep (Nat.le_refl _) fun d hd => get_set_ne ?_
        intro e2
        subst e2
        rcases Nat.lt_or_gt_of_ne e with hlt | hgt
        · have := h.sep j i t s d d hlt hi ht hs hd hbs; omega
        · have := h.sep i j s t d d hgt hj hs ht hbs hd; omega

theorem CI.setN {lo lo2 : Nat} {K : Heap} {ys : List NodeD} {src ss : List Value} {v s : Value} {i : Nat} {x : NodeD} {n : Int} (h : CI lo lo2 K ys src v ys.length ss) (hx : ys[i]? = some x) (hs : ss[i]? = some s) :
    ∃ b, v = .slice (some ⟨b, 0, none⟩) ys.length BIG ∧ K.get b = some (.cells true 3 (List.zipWith nodeC ys ss).flatten) ∧ lo ≤ b ∧ b < lo2 ∧ b < K.next ∧
      CI lo lo2 (K.set b (.cells true 3 ((List.zipWith nodeC ys ss).set i ((nodeC x s).set 1 (.int .i64 n))).flatten)) (ys.set i { x with n := n }) src v (ys.set i { x with n := n }).length ss := by
  have hi := (List.getElem?_eq_some_iff.1 hx).1
  have hlen : (List.zipWith nodeC ys ss).length = ys.length := by simp [h.len]
  have hno : ¬ List.zipWith nodeC ys ss = [] := fun e => by
    have := congrArg List.length e
    rw [hlen] at this; simp at this
    subst this; simp at hi
  rcases h.row with ⟨h1, _⟩ | ⟨b, c, h1, h2, h3, h4, h5⟩
  · exact absurd h1 hno
  · have hc : c = BIG := by
      rcases h5 with ⟨h5, _⟩ | h5
      · exact absurd h5 hno
      · exact h5
    subst hc
    rw [hlen] at h1
    have hbv : blockOf v = some b := by rw [h1]; rfl
    have hb2 := h.vb b hbv
    refine ⟨b, h1, h2, h3, hb2, h4, ?_⟩
    rw [List.length_set]
    refine ⟨?_, h.vb, h.lok, by rw [List.length_set]; exact h.len, h.old, ?_, h.sep⟩
    · rw [zip_n hx hs]
      refine .inr ⟨b, BIG, by rw [h1, List.length_set, hlen], get_set_self _ _ _, h3, h4, .inr rfl⟩
    · intro j z t hj hz ht
      have hz' : ∃ z', ys[j]? = some z' ∧ z'.l = z.l := by
        by_cases e : j = i
        · subst e
          rw [List.getElem?_set_self hi] at hz
          cases hz
          exact ⟨x, hx, rfl⟩
        · rw [List.getElem?_set_ne (fun e' => e e'.symm)] at hz
          exact ⟨z, hz, rfl⟩
      obtain ⟨z', hz1, hz2⟩ := hz'
      have hn := h.new j z' t hj hz1 ht
      rw [hz2] at hn
      exact hn.keep (Nat.le_refl _) fun d hd => get_set_ne (by have := (hn.blk d hd).1; omega)
end Go.Proofs.Ytpopkajkekceiaa

namespace Go.Proofs.Ytpopkajkekceiaa
open Go Go.Abs
set_option maxRecDepth 100000
set_option linter.unusedSimpArgs false
set_option linter.unusedVariables false

/-! ### FunSame's loops -/
def pMu : List Nat := [1, 1, 1, 1, 1, 0, 1, 0, 0]
def pNu : List Nat := [1, 1, 1, 1, 1, 0, 1, 0, 0, 1, 0, 0, 0, 1, 0, 0]
def keepMu (e e' : Env) : Prop := e'.val 2 = e.val 2 ∧ e'.val 5 = e.val 5 ∧ e'.val 6 = e.val 6 ∧ e'.val 7 = e.val 7
theorem keepMu.trans {a b c : Env} (h : keepMu a b) (k : keepMu b c) : keepMu a c := ⟨k.1.trans h.1, k.2.1.trans h.2.1, k.2.2.1.trans h.2.2.1, k.2.2.2.trans h.2.2.2⟩
theorem keepMu.refl (a : Env) : keepMu a a := ⟨rfl, rfl, rfl, rfl⟩

def up (n : Int) : Int := IntKind.i64.wrap (n + 1)

theorem mu_exit {call : CallF} {lf : Nat} {env : Env} {K : Heap} {bc i n : Nat} {v : Value} {cs : List (List Value)} (e5 : env.val 5 = .pointer (some ⟨bc, 0, none⟩)) (e8 : env.val 8 = .int .i64 i) (ld : loadA Try.prog 22 K bc 1 = some v) (hv : rdS K 3 v = some cs) (hi : cs.length ≤ i) :
    ∃ env', evCode Try.prog call lf 108 none (cAt Try.f8 pMu) env [] K = some (.exit 0, env', [], K) ∧ keepMu env env' := by
  have c1 : ¬ (i : Int) < (cs.length : Int) := by omega
  have hb := len_of (H' := K) (P := Try.prog) (t := 22) hv Try.underlying22
  generalize hr : evCode Try.prog call lf 108 none (cAt Try.f8 pMu) env [] K = out
  simp [pMu, Try.f8, e5, e8, ld, hb, c1] at hr
  subst hr
  exact ⟨_, rfl, by simp [keepMu, e5]⟩

theorem mu_head {call : CallF} {lf : Nat} {env : Env} {K : Heap} {bc i n : Nat} {v : Value} {cs : List (List Value)} (e5 : env.val 5 = .pointer (some ⟨bc, 0, none⟩)) (e8 : env.val 8 = .int .i64 i) (ld : loadA Try.prog 22 K bc 1 = some v) (hv : rdS K 3 v = some cs) (hi : i < cs.length) :
    ∃ env', evCode Try.prog call lf 108 none (cAt Try.f8 (pMu ++ [0])) env [] K = some (.normal, env', [], K) ∧ keepMu env env' ∧ env'.val 8 = env.val 8 := by
  have c1 : (i : Int) < (cs.length : Int) := by omega
  have hb := len_of (H' := K) (P := Try.prog) (t := 22) hv Try.underlying22
  generalize hr : evCode Try.prog call lf 108 none (cAt Try.f8 (pMu ++ [0])) env [] K = out
  simp [pMu, Try.f8, e5, e8, ld, hb, c1] at hr
  subst hr
  exact ⟨_, rfl, by simp [keepMu, e5], by simp [e8]⟩

theorem mu_R9 {call : CallF} {lf : Nat} {env : Env} {K : Heap} : ∃ env', evCode Try.prog call lf 108 none (cAt Try.f8 (pMu ++ [1, 0, 0, 0, 0])) env [] K = some (.normal, env', [], K) ∧ keepMu env env' ∧ env'.val 8 = env.val 8 ∧ env'.val 9 = .int .i64 (0 : Nat) := by
  generalize hr : evCode Try.prog call lf 108 none (cAt Try.f8 (pMu ++ [1, 0, 0, 0, 0])) env [] K = out
  simp [pMu, Try.f8] at hr
  subst hr
  exact ⟨_, rfl, by simp [keepMu], by simp, by simp⟩

theorem nu_exit {call : CallF} {lf : Nat} {env : Env} {K : Heap} {bc i k : Nat} {v s : Value} {l : List Int} (e5 : env.val 5 = .pointer (some ⟨bc, 0, none⟩)) (e8 : env.val 8 = .int .i64 i) (e9 : env.val 9 = .int .i64 k) (ld : loadA Try.prog 22 K bc 1 = some v)
    (ix : indexAddrA Try.prog 22 v i = some (.pointer (some ⟨blk v, offs v + i * 3, none⟩))) (lo : loadA Try.prog 38 K (blk v) (offs v + i * 3 + 2) = some s) (hl : rdInts K .i64 s = some l) (hk : l.length ≤ k) :
    ∃ env', evCode Try.prog call lf 108 none (cAt Try.f8 pNu) env [] K = some (.exit 2, env', [], K) ∧ keepMu env env' ∧ env'.val 8 = env.val 8 := by
  have c1 : ¬ (k : Int) < (l.length : Int) := by omega
  have hb := len_of (H' := K) (P := Try.prog) (t := 38) (rdInts_rd hl) Try.underlying38
  simp only [List.length_map] at hb
  generalize hr : evCode Try.prog call lf 108 none (cAt Try.f8 pNu) env [] K = out
  simp [pNu, Try.f8, e5, e8, e9, ld, ix, lo, hb, c1] at hr
  subst hr
  exact ⟨_, rfl, by simp [keepMu, e5], by simp [e8]⟩

theorem nu_step {call : CallF} {lf : Nat} {env : Env} {K K2 : Heap} {bc i k : Nat} {v s : Value} {l : List Int} {y : Int} (e5 : env.val 5 = .pointer (some ⟨bc, 0, none⟩)) (e8 : env.val 8 = .int .i64 i) (e9 : env.val 9 = .int .i64 k) (ld : loadA Try.prog 22 K bc 1 = some v)
    (ix : indexAddrA Try.prog 22 v i = some (.pointer (some ⟨blk v, offs v + i * 3, none⟩))) (lo : loadA Try.prog 38 K (blk v) (offs v + i * 3 + 2) = some s) (hl : rdInts K .i64 s = some l) (hy : l[k]? = some y) (hn : l.length ≤ 1073741824)
    (st : storeA Try.prog 3 K (blk s) (offs s + k) (.int .i64 (up y)) = some K2) :
    ∃ env', evCode Try.prog call lf 108 none (cAt Try.f8 pNu) env [] K = some (.normal, env', [], K2) ∧ keepMu env env' ∧ env'.val 8 = env.val 8 ∧ env'.val 9 = .int .i64 ((k + 1 : Nat) : Int) := by
  have hk := (List.getElem?_eq_some_iff.1 hy).1
  have c1 : (k : Int) < (l.length : Int) := by omega
  have w1 : IntKind.i64.wrap ((k : Int) + 1) = (k : Int) + 1 := wrapI (by omega) (by omega)
  have hb := len_of (H' := K) (P := Try.prog) (t := 38) (rdInts_rd hl) Try.underlying38
  simp only [List.length_map] at hb
  obtain ⟨iy, ly⟩ := rdInts_at hl hy Try.underlying38 info3 rfl Try.underlying3 rfl
  have hu : IntKind.i64.wrap (y + 1) = up y := rfl
  generalize hr : evCode Try.prog call lf 108 none (cAt Try.f8 pNu) env [] K = out
  simp [pNu, Try.f8, e5, e8, e9, ld, ix, lo, hb, c1, iy, ly, hu, st, w1] at hr
  subst hr
  exact ⟨_, rfl, by simp [keepMu, e5], by simp [e8], by simp⟩

theorem mu_R13 {call : CallF} {lf : Nat} {env : Env} {K K2 : Heap} {bc i : Nat} {v s : Value} {op n : Int} {cs : List (List Value)} (e5 : env.val 5 = .pointer (some ⟨bc, 0, none⟩)) (e8 : env.val 8 = .int .i64 i) (ld : loadA Try.prog 22 K bc 1 = some v) (hv : rdS K 3 v = some cs) (hx : cs[i]? = some [.int .i64 op, .int .i64 n, s]) (hi : i ≤ 1073741824)
    (st : storeA Try.prog 2 K (blk v) (offs v + i * 3 + 1) (.int .i64 (up n)) = some K2) :
    (∃ env', evCode Try.prog call lf 108 none (cAt Try.f8 (pMu ++ [1, 0, 0, 1])) env [] K = some (.normal, env', [], K2) ∧ keepMu env env' ∧ env'.val 8 = env.val 8) ∧
    ∀ K3, ∃ env', evCode Try.prog call lf 108 none (cAt Try.f8 (pMu ++ [1, 1])) env [] K3 = some (.normal, env', [], K3) ∧ keepMu env env' ∧ env'.val 8 = .int .i64 ((i + 1 : Nat) : Int) := by
  have hlt := (List.getElem?_eq_some_iff.1 hx).1
  have ix := rdS_index hv Try.underlying22 info40 size40 (n := (i : Int)) (by omega) (by omega)
  simp only [Int.toNat_natCast] at ix
  have lo := rdS_load hv hx (k := 1) (u := .int .i64 n) rfl info2 Try.underlying2 (t := 2) rfl
  have hu : IntKind.i64.wrap (n + 1) = up n := rfl
  have w1 : IntKind.i64.wrap ((i : Int) + 1) = (i : Int) + 1 := wrapI (by omega) (by omega)
  refine ⟨?_, fun K3 => ?_⟩
  · generalize hr : evCode Try.prog call lf 108 none (cAt Try.f8 (pMu ++ [1, 0, 0, 1])) env [] K = out
    simp [pMu, Try.f8, e5, e8, ld, ix, lo, hu, st] at hr
    subst hr
    exact ⟨_, rfl, by simp [keepMu, e5], by simp [e8]⟩
  · generalize hr : evCode Try.prog call lf 108 none (cAt Try.f8 (pMu ++ [1, 1])) env [] K3 = out
    simp [pMu, Try.f8, e5, e8, w1] at hr
    subst hr
    exact ⟨_, rfl, by simp [keepMu, e5], by simp⟩
end Go.Proofs.Ytpopkajkekceiaa

namespace Go.Proofs.Ytpopkajkekceiaa
open Go Go.Abs
set_option maxRecDepth 100000
set_option linter.unusedSimpArgs false
set_option linter.unusedVariables false

/-- Nothing but blocks from lo up to hi is turned. -/
structure Fr (lo hi : Nat) (K0 K : Heap) : Prop where
  wf : K.Wf
  next : K.next = K0.next
  get : ∀ b, b < lo ∨ hi ≤ b → K.get b = K0.get b
theorem Fr.refl {lo hi : Nat} {K : Heap} (h : K.Wf) : Fr lo hi K K := ⟨h, rfl, fun _ _ => rfl⟩
theorem Fr.set {lo hi : Nat} {K0 K : Heap} (h : Fr lo hi K0 K) {b : Nat} (h1 : lo ≤ b) (h2 : b < hi) (h3 : b < K.next) (o : AObj) : Fr lo hi K0 (K.set b o) :=
  ⟨h.wf.set h3 o, h.next, fun c hc => by rw [get_set_ne (by omega)]; exact h.get c hc⟩

theorem store2n {H : Heap} {b : Nat} {cs : List (List Value)} {i : Nat} {x : List Value} {n : Int} (h : H.get b = some (.cells true 3 cs.flatten)) (hl : ∀ c ∈ cs, c.length = 3) (hx : cs[i]? = some x) :
    storeA Try.prog 2 H b (i * 3 + 1) (.int .i64 n) = some (H.set b (.cells true 3 (cs.set i (x.set 1 (.int .i64 n))).flatten)) := by
  have hlt := (List.getElem?_eq_some_iff.1 hx).1
  simp only [storeA, h, info2, size2, cells_int]
  rw [if_pos ⟨rfl, by rw [flatten_length cs hl]; omega, rfl⟩, ← flatten_cell cs i 1 x _ hl hx (by omega)]

structure MI (lo lo2 hi : Nat) (K0 K : Heap) (bc : Nat) (p v : Value) (src ss : List Value) (ys : List NodeD) : Prop where
  ci : CI lo lo2 K ys src v ys.length ss
  fr : Fr lo hi K0 K
  hb : hi ≤ bc
  box : K0.get bc = some (.cells true 2 [p, v])
  l2 : lo2 ≤ hi
  ll : lo ≤ lo2
  sb : ∀ (j : Nat) s b, ss[j]? = some s → blockOf s = some b → b < hi

theorem MI.boxed {lo lo2 hi : Nat} {K0 K : Heap} {bc : Nat} {p v : Value} {src ss : List Value} {ys : List NodeD} (h : MI lo lo2 hi K0 K bc p v src ss ys) : loadA Try.prog 22 K bc 1 = some v := by
  have := h.fr.get bc (.inr h.hb)
  rw [h.box] at this
  simp [loadA, this]

theorem MI.at_ {lo lo2 hi : Nat} {K0 K : Heap} {bc i : Nat} {p v : Value} {src ss : List Value} {ys : List NodeD} {x : NodeD} (h : MI lo lo2 hi K0 K bc p v src ss ys) (hx : ys[i]? = some x) : ∃ s, ss[i]? = some s ∧ (List.zipWith nodeC ys ss)[i]? = some [.int .i64 x.op, .int .i64 x.n, s] ∧ rdInts K .i64 s = some x.l ∧
    indexAddrA Try.prog 22 v i = some (.pointer (some ⟨blk v, offs v + i * 3, none⟩)) ∧ loadA Try.prog 38 K (blk v) (offs v + i * 3 + 2) = some s := by
  have hi := (List.getElem?_eq_some_iff.1 hx).1
  have hn := h.ci.nodes
  obtain ⟨s, h1, h2⟩ := hn.2.2 i x hx
  have hs := List.getElem?_eq_getElem (l := ss) (i := i) (by rw [h.ci.len]; exact hi)
  have : s = ss[i]'(by rw [h.ci.len]; exact hi) := by
    rw [List.getElem?_zipWith, hx, hs] at h1
    simp [nodeC] at h1
    exact h1.symm
  have ix := rdS_index hn.1 Try.underlying22 info40 size40 (n := (i : Int)) (by omega) (by rw [hn.2.1]; omega)
  simp only [Int.toNat_natCast] at ix
  exact ⟨s, by rw [hs, this], h1, h2, ix, rdS_load hn.1 h1 (k := 2) (u := s) rfl info38 Try.underlying38 (t := 38) rfl⟩

theorem nu_loop {call : CallF} {lf : Nat} {lo lo2 hi : Nat} {K0 : Heap} {bc i : Nat} {p v : Value} {src ss : List Value} : ∀ (d k m : Nat) (env : Env) (K : Heap) (ys : List NodeD) (x : NodeD), d < m → x.l.length = k + d → x.l.length ≤ 1073741824 → ys[i]? = some x → MI lo lo2 hi K0 K bc p v src ss ys →
    env.val 5 = .pointer (some ⟨bc, 0, none⟩) → env.val 8 = .int .i64 i → env.val 9 = .int .i64 k →
    ∃ env' K', evLoop Try.prog call lf 108 none (cAt Try.f8 pNu) m env [] K = some (.exit 2, env', [], K') ∧ keepMu env env' ∧ env'.val 8 = env.val 8 ∧ MI lo lo2 hi K0 K' bc p v src ss (ys.set i { x with l := x.l.take k ++ (x.l.drop k).map up })
  | d, k, 0, env, K, ys, x, hm, _, _, _, _, _, _, _ => by omega
  | 0, k, m + 1, env, K, ys, x, hm, hl, hn, hx, hI, e5, e8, e9 => by
    obtain ⟨s, a1, a2, a3, a4, a5⟩ := hI.at_ hx
    obtain ⟨env', he, k1, k8⟩ := nu_exit (call := call) (lf := lf) e5 e8 e9 hI.boxed a4 a5 a3 (by omega)
    simp only [evLoop_succ, he]
    refine ⟨env', K, rfl, k1, k8, ?_⟩
    rw [List.take_of_length_le (by omega), List.drop_eq_nil_of_le (by omega), List.map_nil, List.append_nil]
    have : ys.set i { x with l := x.l } = ys := by
      have hi := (List.getElem?_eq_some_iff.1 hx).1
      refine List.ext_getElem? fun j => ?_
      by_cases hj : j = i
      · subst hj; rw [List.getElem?_set_self hi, hx]
      · rw [List.getElem?_set_ne (fun e => hj e.symm)]
    rw [this]
    exact hI
  | d + 1, k, m + 1, env, K, ys, x, hm, hl, hn, hx, hI, e5, e8, e9 => by
    have hil := (List.getElem?_eq_some_iff.1 hx).1
    obtain ⟨s, a1, a2, a3, a4, a5⟩ := hI.at_ hx
    have hy := List.getElem?_eq_getElem (l := x.l) (i := k) (by omega)
    obtain ⟨b, c, h1, h2, h3, h4, h5⟩ := hI.ci.setL (y' := up (x.l[k]'(by omega))) hx a1 hy
    have hbhi : b < hi := by exact hI.sb i s b a1 (by rw [h1]; rfl)
    have st := store_ints (b := b) (x := k) (W := x.l) (v := up (x.l[k]'(by omega))) h2 (by omega)
    obtain ⟨env', he, k1, k8, k9⟩ := nu_step (call := call) (lf := lf) e5 e8 e9 hI.boxed a4 a5 a3 hy hn (by rw [h1]; show storeA Try.prog 3 K b (0 + k) _ = _; rw [Nat.zero_add]; exact st)
    have hll := hI.ll
    have hI' : MI lo lo2 hi K0 (K.set b (.cells true 1 ((x.l.set k (up (x.l[k]'(by omega)))).map fun n => .int .i64 n))) bc p v src ss (ys.set i { x with l := x.l.set k (up (x.l[k]'(by omega))) }) :=
      ⟨h5, hI.fr.set (by omega) hbhi h4 _, hI.hb, hI.box, hI.l2, hI.ll, hI.sb⟩
    obtain ⟨e2, K2, r, j1, j8, hI2⟩ := nu_loop (call := call) (lf := lf) d (k + 1) m env' _ _ { x with l := x.l.set k (up (x.l[k]'(by omega))) } (by omega) (by simp; omega) (by simpa using hn) (List.getElem?_set_self hil) hI' (k1.2.1.trans e5) (k8.trans e8) k9
    simp only [evLoop_succ, he]
    refine ⟨e2, K2, r, k1.trans j1, j8.trans k8, ?_⟩
    rw [List.set_set] at hI2
    have hd : (x.l.set k (up (x.l[k]'(by omega)))).take (k + 1) ++ ((x.l.set k (up (x.l[k]'(by omega)))).drop (k + 1)).map up = x.l.take k ++ (x.l.drop k).map up := by
      rw [List.drop_set_of_lt (by omega), List.drop_eq_getElem_cons (l := x.l) (i := k) (by omega), List.map_cons, List.take_add_one, List.getElem?_set_self (by omega), List.take_set_of_le (by omega)]
      simp
    simp only [hd] at hI2
    exact hI2
end Go.Proofs.Ytpopkajkekceiaa

namespace Go.Proofs.Ytpopkajkekceiaa
open Go Go.Abs
set_option maxRecDepth 100000
set_option linter.unusedSimpArgs false
set_option linter.unusedVariables false

def upN (x : NodeD) : NodeD := ⟨x.op, up x.n, x.l.map up⟩

theorem mu_round {call : CallF} {lf : Nat} {lo lo2 hi : Nat} {K0 : Heap} {bc i : Nat} {p v : Value} {src ss : List Value} {env : Env} {K : Heap} {ys : List NodeD} {x : NodeD} (hx : ys[i]? = some x) (hlf : x.l.length < lf) (hn : x.l.length ≤ 1073741824) (hi30 : i ≤ 1073741824) (hI : MI lo lo2 hi K0 K bc p v src ss ys)
    (e5 : env.val 5 = .pointer (some ⟨bc, 0, none⟩)) (e8 : env.val 8 = .int .i64 i) :
    ∃ env' K', evCode Try.prog call lf 108 none (cAt Try.f8 pMu) env [] K = some (.normal, env', [], K') ∧ keepMu env env' ∧ env'.val 8 = .int .i64 ((i + 1 : Nat) : Int) ∧ MI lo lo2 hi K0 K' bc p v src ss (ys.set i (upN x)) := by
  have hil := (List.getElem?_eq_some_iff.1 hx).1
  have hnd := hI.ci.nodes
  obtain ⟨a1, r1, k1, k18⟩ := mu_head (call := call) (lf := lf) (n := 0) e5 e8 hI.boxed hnd.1 (by rw [hnd.2.1]; exact hil)
  obtain ⟨a2, r2, k2, k28, k29⟩ := mu_R9 (call := call) (lf := lf) (env := a1) (K := K)
  obtain ⟨a3, K1, r3, k3, k38, hI1⟩ := nu_loop (call := call) (lf := lf) x.l.length 0 lf a2 K ys x hlf (by omega) hn hx hI (k2.2.1.trans (k1.2.1.trans e5)) (k28.trans (k18.trans e8)) k29
  simp only [List.take_zero, List.nil_append, List.drop_zero] at hI1
  have hx1 : (ys.set i { x with l := x.l.map up })[i]? = some { x with l := x.l.map up } := List.getElem?_set_self hil
  obtain ⟨s, b1, b2, b3, b4, b5⟩ := hI1.at_ hx1
  obtain ⟨b, h1, h2, h3, h4, h5, h6⟩ := hI1.ci.setN (n := up x.n) hx1 b1
  have st := store2n (n := up x.n) h2 (nodeC_len _ _) b2
  have hnd1 := hI1.ci.nodes
  have hbl : blk v = b := by rw [h1]; rfl
  have hof : offs v = 0 := by rw [h1]; rfl
  have e5' := k3.2.1.trans (k2.2.1.trans (k1.2.1.trans e5))
  have e8' := k38.trans (k28.trans (k18.trans e8))
  obtain ⟨⟨a4, r4, k4, k48⟩, hR8⟩ := mu_R13 (call := call) (lf := lf) e5' e8' hI1.boxed hnd1.1 b2 hi30 (by rw [hbl, hof, Nat.zero_add]; exact st)
  obtain ⟨a5, r5, k5, k58⟩ := (mu_R13 (call := call) (lf := lf) (env := a4) (k4.2.1.trans e5') (k48.trans e8') hI1.boxed hnd1.1 b2 hi30 (by rw [hbl, hof, Nat.zero_add]; exact st)).2 (K1.set b (.cells true 3 ((List.zipWith nodeC (ys.set i { x with l := x.l.map up }) ss).set i ((nodeC { x with l := x.l.map up } s).set 1 (.int .i64 (up x.n)))).flatten))
  have hl2 := hI1.l2
  refine ⟨a5, K1.set b (.cells true 3 ((List.zipWith nodeC (ys.set i { x with l := x.l.map up }) ss).set i ((nodeC { x with l := x.l.map up } s).set 1 (.int .i64 (up x.n)))).flatten), ?_, (((k1.trans k2).trans k3).trans k4).trans k5, k58, ?_⟩
  · rw [ev_then (c := cAt Try.f8 pMu) (b := cAt Try.f8 (pMu ++ [1])) rfl r1]
    have hin : evCode Try.prog call lf 108 none (cAt Try.f8 (pMu ++ [1, 0, 0, 0])) a1 [] K = some (.normal, a3, [], K1) := by
      rw [ev_then (c := cAt Try.f8 (pMu ++ [1, 0, 0, 0])) (b := cAt Try.f8 (pMu ++ [1, 0, 0, 0, 1])) rfl r2, show cAt Try.f8 (pMu ++ [1, 0, 0, 0, 1]) = .block 2 (.loop (cAt Try.f8 pNu)) from rfl, evCode_block, evCode_loop, r3]
      rfl
    have hblk : evCode Try.prog call lf 108 none (cAt Try.f8 (pMu ++ [1, 0])) a1 [] K = some (.normal, a4, [], K1.set b (.cells true 3 ((List.zipWith nodeC (ys.set i { x with l := x.l.map up }) ss).set i ((nodeC { x with l := x.l.map up } s).set 1 (.int .i64 (up x.n)))).flatten)) := by
      rw [show cAt Try.f8 (pMu ++ [1, 0]) = .block 1 (cAt Try.f8 (pMu ++ [1, 0, 0])) from rfl, evCode_block, ev_then (c := cAt Try.f8 (pMu ++ [1, 0, 0])) (b := cAt Try.f8 (pMu ++ [1, 0, 0, 1])) rfl hin, r4]
      rfl
    rw [ev_then (c := cAt Try.f8 (pMu ++ [1])) (b := cAt Try.f8 (pMu ++ [1, 1])) rfl hblk, r5]
  · rw [List.set_set] at h6
    exact ⟨h6, hI1.fr.set h3 (by omega) h5 _, hI1.hb, hI1.box, hI1.l2, hI1.ll, hI1.sb⟩

theorem mu_loop {call : CallF} {lf : Nat} {lo lo2 hi : Nat} {K0 : Heap} {bc : Nat} {p v : Value} {src ss : List Value} : ∀ (d i m : Nat) (env : Env) (K : Heap) (ys : List NodeD), d < m → ys.length = i + d → ys.length ≤ 1073741824 → (∀ x ∈ ys, x.l.length < lf ∧ x.l.length ≤ 1073741824) → MI lo lo2 hi K0 K bc p v src ss ys →
    env.val 5 = .pointer (some ⟨bc, 0, none⟩) → env.val 8 = .int .i64 i →
    ∃ env' K', evLoop Try.prog call lf 108 none (cAt Try.f8 pMu) m env [] K = some (.exit 0, env', [], K') ∧ keepMu env env' ∧ MI lo lo2 hi K0 K' bc p v src ss (ys.take i ++ (ys.drop i).map upN)
  | d, i, 0, env, K, ys, hm, _, _, _, _, _, _ => by omega
  | 0, i, m + 1, env, K, ys, hm, hl, hn, hf, hI, e5, e8 => by
    have hnd := hI.ci.nodes
    obtain ⟨env', he, k⟩ := mu_exit (call := call) (lf := lf) (n := 0) e5 e8 hI.boxed hnd.1 (by rw [hnd.2.1]; omega)
    simp only [evLoop_succ, he]
    rw [List.take_of_length_le (by omega), List.drop_eq_nil_of_le (by omega), List.map_nil, List.append_nil]
    exact ⟨env', K, rfl, k, hI⟩
  | d + 1, i, m + 1, env, K, ys, hm, hl, hn, hf, hI, e5, e8 => by
    have hx := List.getElem?_eq_getElem (l := ys) (i := i) (by omega)
    obtain ⟨f1, f2⟩ := hf _ (List.getElem_mem (l := ys) (n := i) (by omega))
    obtain ⟨env', K', he, k, k8, hI'⟩ := mu_round (call := call) (lf := lf) hx f1 f2 (by omega) hI e5 e8
    obtain ⟨e2, K2, r, j, hI2⟩ := mu_loop (call := call) (lf := lf) d (i + 1) m env' K' (ys.set i (upN (ys[i]'(by omega)))) (by omega) (by simp; omega) (by simpa using hn) (fun x hx => by
      rcases List.mem_or_eq_of_mem_set hx with h | h
      · exact hf x h
      · rw [h]; simp only [upN, List.length_map]; exact ⟨f1, f2⟩) hI' (k.2.1.trans e5) k8
    simp only [evLoop_succ, he]
    refine ⟨e2, K2, r, k.trans j, ?_⟩
    have hd : (ys.set i (upN (ys[i]'(by omega)))).take (i + 1) ++ ((ys.set i (upN (ys[i]'(by omega)))).drop (i + 1)).map upN = ys.take i ++ (ys.drop i).map upN := by
      rw [List.drop_set_of_lt (by omega), List.drop_eq_getElem_cons (l := ys) (i := i) (by omega), List.map_cons, List.take_add_one, List.getElem?_set_self (by omega), List.take_set_of_le (by omega)]
      simp
    rw [hd] at hI2
    exact hI2
end Go.Proofs.Ytpopkajkekceiaa

namespace Go.Proofs.Ytpopkajkekceiaa
open Go Go.Abs
set_option maxRecDepth 100000
set_option linter.unusedSimpArgs false
set_option linter.unusedVariables false

/-! ### FunSame (8), region by region -/
noncomputable def c8 : List (Contract Try.prog) := [fewC, worksC, sameFC, sameRC]
noncomputable def call8 (lf : Nat) : CallF := evWith Try.prog lf c8 2
theorem call8_of {lf : Nat} {job : Job} {H : Heap} {r : CRes × Heap} (h : callOf c8 job H = some r) : call8 lf job H = some r := by
  unfold call8; simp only [evWith, h]
theorem call8_few {lf : Nat} {H : Heap} {v : Value} {f : FunD} (h : rdFun H v = some f) : call8 lf (.fn 9 [v]) H = some (.ret (.bool (fewL f)), H) := call8_of (few_hit h)
theorem call8_works {lf : Nat} {H : Heap} : call8 lf (.fn 10 []) H = some (.ret (.bool true), H) := call8_of (by unfold c8; rw [callOf_miss (by decide)]; exact callOf_hit rfl rfl)
theorem call8_same {lf : Nat} {H : Heap} {v w : Value} {f g : FunD} (h1 : rdFit H v = some f) (h2 : rdFit H w = some g) (hn : f.nodes.length < 1099511627776) : call8 lf (.fn 27 [v, w]) H = some (.ret (.bool (sameFL f g)), H) :=
  call8_of (by unfold c8; rw [callOf_miss (by decide), callOf_miss (by decide)]; exact sameF_hit h1 h2 hn)
theorem call8_sameR {lf : Nat} {H : Heap} {v w : Value} {f g : FunD} (h1 : rdFit H v = some f) (h2 : rdFit H w = some g) (hn : f.nodes.length < 1099511627776) : call8 lf (.fn 26 [v, w]) H = some (.ret (.bool (sameFL f g)), H) :=
  call8_of (by unfold c8; rw [callOf_miss (by decide), callOf_miss (by decide), callOf_miss (by decide)]; exact sameR_hit h1 h2 hn)
theorem c8_miss {f : FuncId} {args : List Value} {H : Heap} (h9 : f ≠ 9) (h10 : f ≠ 10) (h27 : f ≠ 27) (h26 : f ≠ 26) : callOf c8 (.fn f args) H = none := by
  unfold c8
  rw [callOf_miss h9, callOf_miss h10, callOf_miss h27, callOf_miss h26]
  rfl
theorem call8_copy {lf : Nat} {v : Value} {H : Heap} : call8 lf (.fn 22 [v]) H = evFn Try.prog (evWith Try.prog lf c8 1) lf 22 [v] H := by
  unfold call8
  rw [evWith]
  simp only [c8_miss (f := 22) (by decide) (by decide) (by decide) (by decide)]
  rfl
theorem with8_35 {lf : Nat} {v : Value} {H : Heap} : evWith Try.prog lf c8 1 (.fn 35 [v]) H = evFn Try.prog (callOf c8) lf 35 [v] H := by
  simp only [evWith, c8_miss (f := 35) (by decide) (by decide) (by decide) (by decide)]
  rfl
theorem with8_36 {lf : Nat} {v : Value} {H : Heap} : evWith Try.prog lf c8 1 (.fn 36 [v]) H = evFn Try.prog (callOf c8) lf 36 [v] H := by
  simp only [evWith, c8_miss (f := 36) (by decide) (by decide) (by decide) (by decide)]
  rfl

theorem sameN_symm (x y : NodeD) : sameN x y = sameN y x := by
  unfold sameN
  rw [decide_eq_decide.2 (eq_comm (a := x.op)), decide_eq_decide.2 (eq_comm (a := x.n)), decide_eq_decide.2 (eq_comm (a := x.l))]
theorem sameNs_symm : ∀ (xs ys : List NodeD), sameNs xs ys = sameNs ys xs
  | [], [] => rfl
  | x :: xs, y :: ys => by simp only [sameNs]; rw [sameN_symm x y, sameNs_symm xs ys]
  | [], _ :: _ => rfl
  | _ :: _, [] => rfl
theorem sameFL_symm (f g : FunD) : sameFL f g = sameFL g f := by
  unfold sameFL
  rw [decide_eq_decide.2 (eq_comm (a := f.params)), sameNs_symm]
theorem sameNs_self : ∀ xs : List NodeD, sameNs xs xs = true
  | [] => rfl
  | x :: xs => by simp only [sameNs]; rw [sameNs_self xs]; simp [sameN]
theorem sameFL_self (f : FunD) : sameFL f f = true := by simp [sameFL, sameNs_self]

theorem up_ne {n : Int} (h0 : -9223372036854775808 ≤ n) (h1 : n ≤ 9223372036854775807) : up n ≠ n := by
  unfold up
  rw [IntKind.wrap_i64]
  omega

theorem s_head {lf : Nat} {env : Env} {H : Heap} {b2 b3 : Nat} {va vb : Value} {f g : FunD} (e2 : env.val 2 = .pointer (some ⟨b2, 0, none⟩)) (e3 : env.val 3 = .pointer (some ⟨b3, 0, none⟩)) (l2 : loadA Try.prog 24 H b2 0 = some va) (l3 : loadA Try.prog 24 H b3 0 = some vb) (hf : rdFun H va = some f) (hg : rdFun H vb = some g) :
    ((fewL f && fewL g) = true → ∃ env', evCode Try.prog (call8 lf) lf 108 none (cAt Try.f8 [1, 0]) env [] H = some (.normal, env', [], H) ∧ env'.val 2 = env.val 2 ∧ env'.val 3 = env.val 3) ∧
    ((fewL f && fewL g) = false → ∃ env', evCode Try.prog (call8 lf) lf 108 none (cAt Try.f8 [1, 0]) env [] H = some (.ret, env', [], H) ∧ env'.val 4 = .bool true) := by
  have k1 := call8_few (lf := lf) hf
  have k2 := call8_few (lf := lf) hg
  have k3 := call8_works (lf := lf) (H := H)
  generalize call8 lf = call at *
  generalize hr : evCode Try.prog call lf 108 none (cAt Try.f8 [1, 0]) env [] H = out
  cases h1 : fewL f with
  | false =>
    rw [h1] at k1
    simp [Try.f8, e2, e3, l2, l3, callA, k1, k3, undef] at hr
    subst hr
    exact ⟨(fun h => by cases h), fun _ => ⟨_, rfl, by simp⟩⟩
  | true =>
    rw [h1] at k1
    cases h2 : fewL g with
    | false =>
      rw [h2] at k2
      simp [Try.f8, e2, e3, l2, l3, callA, k1, k2, k3] at hr
      subst hr
      exact ⟨(fun h => by cases h), fun _ => ⟨_, rfl, by simp⟩⟩
    | true =>
      rw [h2] at k2
      simp [Try.f8, e2, e3, l2, l3, callA, k1, k2, k3] at hr
      subst hr
      exact ⟨fun _ => ⟨_, rfl, by simp [e2, e3]⟩, fun h => by cases h⟩

theorem s_R3 {call : CallF} {lf : Nat} {env : Env} {H K : Heap} {b2 : Nat} {va : Value} {p : Int} {s : Value} (e2 : env.val 2 = .pointer (some ⟨b2, 0, none⟩)) (l2 : loadA Try.prog 24 H b2 0 = some va) (hc : call (.fn 22 [va]) H = some (.ret (.agg #[.int .i64 p, s]), K)) (os : oneC s = true) :
    ∃ env', evCode Try.prog call lf 108 none (cAt Try.f8 [1, 1, 0]) env [] H = some (.normal, env', [], (K.push (.cells true 2 [.int .i64 0, .slice none 0 0])).set K.next (.cells true 2 [.int .i64 p, s])) ∧ env'.val 2 = env.val 2 ∧ env'.val 3 = env.val 3 ∧ env'.val 5 = .pointer (some ⟨K.next, 0, none⟩) := by
  have st : storeA Try.prog 24 (K.push (.cells true 2 [.int .i64 0, .slice none 0 0])) K.next 0 (.agg #[.int .i64 p, s]) = some ((K.push (.cells true 2 [.int .i64 0, .slice none 0 0])).set K.next (.cells true 2 [.int .i64 p, s])) := by
    simp [storeA, get_push_self, os, putL]
  generalize hr : evCode Try.prog call lf 108 none (cAt Try.f8 [1, 1, 0]) env [] H = out
  simp [Try.f8, e2, l2, callA, hc, st] at hr
  subst hr
  exact ⟨_, rfl, by simp [e2], by simp, by simp⟩

theorem s_R5 {call : CallF} {lf : Nat} {env : Env} {H K : Heap} {b2 : Nat} {va : Value} {p : Int} {s : Value} (e2 : env.val 2 = .pointer (some ⟨b2, 0, none⟩)) (l2 : loadA Try.prog 24 H b2 0 = some va) (hc : call (.fn 22 [va]) H = some (.ret (.agg #[.int .i64 p, s]), K)) (os : oneC s = true) :
    ∃ env', evCode Try.prog call lf 108 none (cAt Try.f8 [1, 1, 1, 1, 0]) env [] H = some (.normal, env', [], (K.push (.cells true 2 [.int .i64 0, .slice none 0 0])).set K.next (.cells true 2 [.int .i64 p, s])) ∧ env'.val 2 = env.val 2 ∧ env'.val 5 = env.val 5 ∧ env'.val 6 = env.val 6 ∧ env'.val 7 = .pointer (some ⟨K.next, 0, none⟩) := by
  have st : storeA Try.prog 24 (K.push (.cells true 2 [.int .i64 0, .slice none 0 0])) K.next 0 (.agg #[.int .i64 p, s]) = some ((K.push (.cells true 2 [.int .i64 0, .slice none 0 0])).set K.next (.cells true 2 [.int .i64 p, s])) := by
    simp [storeA, get_push_self, os, putL]
  generalize hr : evCode Try.prog call lf 108 none (cAt Try.f8 [1, 1, 1, 1, 0]) env [] H = out
  simp [Try.f8, e2, l2, callA, hc, st] at hr
  subst hr
  exact ⟨_, rfl, by simp [e2], by simp, by simp, by simp⟩

theorem s_R4 {lf : Nat} {env : Env} {H : Heap} {b2 b3 b5 : Nat} {va vb vc : Value} {f g : FunD} (e2 : env.val 2 = .pointer (some ⟨b2, 0, none⟩)) (e3 : env.val 3 = .pointer (some ⟨b3, 0, none⟩)) (e5 : env.val 5 = .pointer (some ⟨b5, 0, none⟩))
    (l2 : loadA Try.prog 24 H b2 0 = some va) (l3 : loadA Try.prog 24 H b3 0 = some vb) (l5 : loadA Try.prog 24 H b5 0 = some vc) (hf : rdFit H va = some f) (hg : rdFit H vb = some g) (hc : rdFit H vc = some f) (nf : f.nodes.length < 1099511627776) (ng : g.nodes.length < 1099511627776) (ea : eqV va va = true) (eb : eqV vb vb = true) :
    ∃ env', evCode Try.prog (call8 lf) lf 108 none (cAt Try.f8 [1, 1, 1, 0]) env [] H = some (.normal, env', [], H) ∧ env'.val 2 = env.val 2 ∧ env'.val 5 = env.val 5 ∧ env'.val 6 = .bool true := by
  have k1 := call8_sameR (lf := lf) hc hf nf
  have k2 := call8_same (lf := lf) hf hg nf
  have k3 := call8_sameR (lf := lf) hf hg nf
  have k4 := call8_same (lf := lf) hg hf ng
  have k5 := call8_same (lf := lf) hf hf nf
  rw [sameFL_self] at k1 k5
  rw [sameFL_symm g f] at k4
  generalize call8 lf = call at *
  generalize hr : evCode Try.prog call lf 108 none (cAt Try.f8 [1, 1, 1, 0]) env [] H = out
  simp [Try.f8] at hr
  rw [evDraw_tab (tab := [(7, [6]), (8, [6]), (16, [15]), (17, [15])])] at hr
  · simp [e2, e3, e5, l2, l3, l5, callA, k1, k2, k3, k4, k5, eqA, ea, eb] at hr
    subst hr
    exact ⟨_, rfl, by simp [e2], by simp [e5], by simp⟩
  · kernel_rfl
  · kernel_rfl
end Go.Proofs.Ytpopkajkekceiaa

namespace Go.Proofs.Ytpopkajkekceiaa
open Go Go.Abs
set_option maxRecDepth 100000
set_option linter.unusedSimpArgs false
set_option linter.unusedVariables false

theorem s_R0 {call : CallF} {lf : Nat} {H : Heap} {p q : Int} {s s' : Value} (os : oneC s = true) (os' : oneC s' = true) :
    ∃ env', evCode Try.prog call lf 108 none (cAt Try.f8 [0]) (envOf 0 [.agg #[.int .i64 p, s], .agg #[.int .i64 q, s']] .nil) [] H = some (.normal, env', [], (H.push (.cells true 2 [.int .i64 p, s])).push (.cells true 2 [.int .i64 q, s'])) ∧
      env'.val 2 = .pointer (some ⟨H.next, 0, none⟩) ∧ env'.val 3 = .pointer (some ⟨H.next + 1, 0, none⟩) := by
  generalize hr : evCode Try.prog call lf 108 none (cAt Try.f8 [0]) (envOf 0 [.agg #[.int .i64 p, s], .agg #[.int .i64 q, s']] .nil) [] H = out
  simp [Try.f8, os, os'] at hr
  subst hr
  exact ⟨_, rfl, by simp, by simp⟩

theorem s_R6 {call : CallF} {lf : Nat} {env : Env} {H : Heap} : ∃ env', evCode Try.prog call lf 108 none (cAt Try.f8 [1, 1, 1, 1, 1, 0, 0]) env [] H = some (.normal, env', [], H) ∧ keepMu env env' ∧ env'.val 8 = .int .i64 (0 : Nat) := by
  generalize hr : evCode Try.prog call lf 108 none (cAt Try.f8 [1, 1, 1, 1, 1, 0, 0]) env [] H = out
  simp [Try.f8] at hr
  subst hr
  exact ⟨_, rfl, by simp [keepMu], by simp⟩

theorem sameNs_up : ∀ (xs : List NodeD), (∀ x ∈ xs, (Lit.int .i64 x.n).wf = true) → 0 < xs.length → sameNs (xs.map upN) xs = false
  | [], _, h => by simp at h
  | x :: xs, hx, _ => by
    have hw := hx x (by simp)
    have hne : up x.n ≠ x.n := by
      simp only [Lit.wf, Bool.and_eq_true, decide_eq_true_eq] at hw
      have h0 : IntKind.i64.min = -9223372036854775808 := by decide
      have h1 : IntKind.i64.max = 9223372036854775807 := by decide
      exact up_ne (by omega) (by omega)
    simp [sameNs, sameN, upN, hne]

theorem s_R14 {lf : Nat} {env : Env} {K : Heap} {b2 b5 b7 : Nat} {p : Int} {s sc sd : Value} {f : FunD} {cs : List (List Value)} (e2 : env.val 2 = .pointer (some ⟨b2, 0, none⟩)) (e5 : env.val 5 = .pointer (some ⟨b5, 0, none⟩)) (e6 : env.val 6 = .bool true) (e7 : env.val 7 = .pointer (some ⟨b7, 0, none⟩))
    (g2 : K.get b2 = some (.cells true 2 [.int .i64 f.params, s])) (g5 : K.get b5 = some (.cells true 2 [.int .i64 f.params, sc])) (g7 : K.get b7 = some (.cells true 2 [.int .i64 f.params, sd]))
    (hs : nodesAt K s cs f.nodes) (hf : rdFit K (.agg #[.int .i64 f.params, s]) = some f) (hd : rdFit K (.agg #[.int .i64 f.params, sd]) = some f) (hc : rdFit K (.agg #[.int .i64 f.params, sc]) = some ⟨f.params, f.nodes.map upN⟩) (nf : f.nodes.length < 1099511627776)
    (hwf : ∀ x ∈ f.nodes, (Lit.int .i64 x.n).wf = true) :
    ∃ env', evCode Try.prog (call8 lf) lf 108 none (cAt Try.f8 [1, 1, 1, 1, 1, 1]) env [] K = some (.ret, env', [], K) ∧ env'.val 4 = .bool true := by
  have k1 := call8_sameR (lf := lf) hd hf nf
  have k2 := call8_sameR (lf := lf) hc hf (by simpa using nf)
  have k3 := call8_works (lf := lf) (H := K)
  rw [sameFL_self] at k1
  have l2 : loadA Try.prog 24 K b2 0 = some (.agg #[.int .i64 f.params, s]) := by simp [loadA, g2]
  have l5 : loadA Try.prog 24 K b5 0 = some (.agg #[.int .i64 f.params, sc]) := by simp [loadA, g5]
  have l7 : loadA Try.prog 24 K b7 0 = some (.agg #[.int .i64 f.params, sd]) := by simp [loadA, g7]
  have l22 : loadA Try.prog 22 K b2 1 = some s := by simp [loadA, g2]
  have lu := len_of (H' := K) (P := Try.prog) (t := 22) hs.1 Try.underlying22
  rw [hs.2.1] at lu
  generalize call8 lf = call at *
  generalize hr : evCode Try.prog call lf 108 none (cAt Try.f8 [1, 1, 1, 1, 1, 1]) env [] K = out
  by_cases h0 : f.nodes.length = 0
  · have d : ((f.nodes.length : Int) == 0) = true := by simp [h0]
    simp [Try.f8, e2, e5, e6, e7, l2, l5, l7, l22, lu, d, callA, k1, k3, undef, -beq_iff_eq, -Int.natCast_eq_zero] at hr
    subst hr
    exact ⟨_, rfl, by simp⟩
  · have d : ((f.nodes.length : Int) == 0) = false := by simp; exact fun e => h0 (by rw [e]; rfl)
    have hn : sameFL ⟨f.params, f.nodes.map upN⟩ f = false := by simp [sameFL, sameNs_up f.nodes hwf (by omega)]
    rw [hn] at k2
    simp [Try.f8, e2, e5, e6, e7, l2, l5, l7, l22, lu, d, callA, k1, k2, k3, -beq_iff_eq, -beq_eq_false_iff_ne, -Int.natCast_eq_zero] at hr
    subst hr
    exact ⟨_, rfl, by simp⟩
end Go.Proofs.Ytpopkajkekceiaa

namespace Go.Proofs.Ytpopkajkekceiaa
open Go Go.Abs
set_option maxRecDepth 100000
set_option linter.unusedSimpArgs false
set_option linter.unusedVariables false

theorem few_len {f : FunD} (h : fewL f = true) : f.nodes.length ≤ 300 ∧ ∀ x ∈ f.nodes, x.l.length ≤ 40 := by
  unfold fewL at h
  simp only [Bool.and_eq_true, decide_eq_true_eq] at h
  obtain ⟨h1, h2⟩ := h
  refine ⟨h2, ?_⟩
  have : ∀ (m : Nat) (l : List NodeD), l.length ≤ m → fewF m l = true → ∀ x ∈ l, x.l.length ≤ 40 := by
    intro m
    induction m with
    | zero => intro l hl _ x hx; cases l with | nil => cases hx | cons y l => simp at hl
    | succ m ih =>
      intro l hl hf x hx
      cases l with
      | nil => cases hx
      | cons y l =>
        simp only [fewF] at hf
        split at hf
        · cases hf
        · rcases List.mem_cons.1 hx with rfl | hx
          · omega
          · exact ih l (by simp at hl; omega) hf x hx
  exact this 301 f.nodes (by omega) h1

theorem Kept.self {H H' : Heap} {x : Option Nat} (h : Kept H H' x) : H'.Wf := h.wf

/-- The row. -/
theorem same_run {H : Heap} {v w : Value} {f g : FunD} (hw : H.Wf) (hf : rdFun H v = some f) (hg : rdFun H w = some g) (hwf : ∀ x ∈ f.nodes, (Lit.int .i64 x.n).wf = true) : ∃ lf H', evFn Try.prog (call8 lf) lf 8 [v, w] H = some (.ret (.bool true), H') := by
  obtain ⟨s, cs, rfl, os, ns⟩ := rdFun_nodes hf
  obtain ⟨s', cs', rfl, os', ns'⟩ := rdFun_nodes hg
  have k1 := ((Kept.refl hw none).push (.cells true 2 [.int .i64 f.params, s])).push (.cells true 2 [.int .i64 g.params, s'])
  obtain ⟨g1, g2⟩ := two_cells (H := H) (p := .int .i64 f.params) (s := s) (q := .int .i64 g.params) (s' := s')
  have hnx : ((H.push (.cells true 2 [.int .i64 f.params, s])).push (.cells true 2 [.int .i64 g.params, s'])).next = H.next + 2 := rfl
  refine ⟨roomOf f, ?_⟩
  obtain ⟨rm1, rm2⟩ := roomOf_node f
  obtain ⟨a0, r0, e2, e3⟩ := s_R0 (call := call8 (roomOf f)) (lf := roomOf f) (H := H) (p := f.params) (q := g.params) os os'
  generalize hH : (H.push (.cells true 2 [.int .i64 f.params, s])).push (.cells true 2 [.int .i64 g.params, s']) = H1 at *
  have l2 : loadA Try.prog 24 H1 H.next 0 = some (.agg #[.int .i64 f.params, s]) := by simp [loadA, g1]
  have l3 : loadA Try.prog 24 H1 (H.next + 1) 0 = some (.agg #[.int .i64 g.params, s']) := by simp [loadA, g2]
  have x1 := k1.ext hw
  have hf1 := rdFun_ext x1 hf
  have hg1 := rdFun_ext x1 hg
  obtain ⟨q1, q2⟩ := s_head (lf := roomOf f) (env := a0) e2 e3 l2 l3 hf1 hg1
  have start : ∀ {o : Out}, evCode Try.prog (call8 (roomOf f)) (roomOf f) 108 none (cAt Try.f8 [1]) a0 [] H1 = some o → evFn Try.prog (call8 (roomOf f)) (roomOf f) 8 [.agg #[.int .i64 f.params, s], .agg #[.int .i64 g.params, s']] H = fnEnd Try.prog (call8 (roomOf f)) (roomOf f) Try.f8 (some o) := fun ho => by
    rw [evFn_at Try.func8 body8 (by simp), Try.ntmps8, ev_then (c := cAt Try.f8 []) (b := cAt Try.f8 [1]) rfl r0, ho]
  cases hfew : (fewL f && fewL g) with
  | false =>
    obtain ⟨a1, r1, e4⟩ := q2 hfew
    refine ⟨H1, ?_⟩
    rw [start (ev_stop (c := cAt Try.f8 [1]) (a := cAt Try.f8 [1, 0]) (b := cAt Try.f8 [1, 1]) rfl r1 (by intro e; cases e))]
    simp [fnEnd, Try.f8, e4]
  | true =>
    obtain ⟨a1, r1, e12, e13⟩ := q1 hfew
    rw [Bool.and_eq_true] at hfew
    obtain ⟨n1, n2⟩ := few_len hfew.1
    obtain ⟨n1', n2'⟩ := few_len hfew.2
    have ff : fits f := fun x hx => by have := n2 x hx; omega
    have fg : fits g := fun x hx => by have := n2' x hx; omega
    -- the first copy
    obtain ⟨sc, K1, ss, src, lo, lo2, c1, kK1, hlo, hlo2, hI⟩ := copy_run (call := evWith Try.prog (roomOf f) c8 1) (lf := roomOf f) k1.wf hf1 (by omega) (fun x hx => by have := n2 x hx; omega) rm1 (c0 := callOf c8) (fun s K => with8_35) (fun s K => with8_36)
    have oc := rdS_one hI.nodes.1
    obtain ⟨a2, r2, e22, e23, e25⟩ := s_R3 (call := call8 (roomOf f)) (lf := roomOf f) (env := a1) (e12.trans e2) l2 (call8_copy.trans c1) oc.2.1
    have kH2 : Kept K1 ((K1.push (.cells true 2 [.int .i64 0, .slice none 0 0])).set K1.next (.cells true 2 [.int .i64 f.params, sc])) none := ((Kept.refl kK1.wf none).push _).set (Nat.le_refl _) (by simp) _
    have gc : ((K1.push (.cells true 2 [.int .i64 0, .slice none 0 0])).set K1.next (.cells true 2 [.int .i64 f.params, sc])).get K1.next = some (.cells true 2 [.int .i64 f.params, sc]) := get_set_self _ _ _
    have hn2 : ((K1.push (.cells true 2 [.int .i64 0, .slice none 0 0])).set K1.next (.cells true 2 [.int .i64 f.params, sc])).next = K1.next + 1 := rfl
    generalize (K1.push (.cells true 2 [.int .i64 0, .slice none 0 0])).set K1.next (.cells true 2 [.int .i64 f.params, sc]) = H2 at *
    have kH12 := kK1.trans kH2
    have x12 := kH12.ext k1.wf
    have g1' := x12 _ _ g1
    have g2' := x12 _ _ g2
    have hf2 := rdFun_ext x12 hf1
    have hg2 := rdFun_ext x12 hg1
    have hc2 : rdFun H2 (.agg #[.int .i64 f.params, sc]) = some f := rdFun_of (hI.nodes.ext (kH2.ext kK1.wf))
    obtain ⟨a3, r3, e32, e35, e36⟩ := s_R4 (lf := roomOf f) (env := a2) (H := H2) (e22.trans (e12.trans e2)) (e23.trans (e13.trans e3)) e25 (by simp [loadA, g1']) (by simp [loadA, g2']) (by simp [loadA, gc]) (rdFit_of hf2 ff) (rdFit_of hg2 fg) (rdFit_of hc2 ff) (by omega) (by omega)
      (by obtain ⟨_, hh, _, ha, _⟩ := rdFun_cells hf; cases hh; simp [ha, (rdS_one ns.1).2.2.2]) (by obtain ⟨_, hh, _, ha, _⟩ := rdFun_cells hg; cases hh; simp [ha, (rdS_one ns'.1).2.2.2])
    -- the second one
    obtain ⟨sd, K2, ss2, src2, lo', lo2', c2, kK2, hlo', hlo2', hI2⟩ := copy_run (call := evWith Try.prog (roomOf f) c8 1) (lf := roomOf f) kH2.wf hf2 (by omega) (fun x hx => by have := n2 x hx; omega) rm1 (c0 := callOf c8) (fun s K => with8_35) (fun s K => with8_36)
    have od := rdS_one hI2.nodes.1
    obtain ⟨a4, r4, e42, e45, e46, e47⟩ := s_R5 (call := call8 (roomOf f)) (lf := roomOf f) (env := a3) (e32.trans (e22.trans (e12.trans e2))) (by simp [loadA, g1']) (call8_copy.trans c2) od.2.1
    have kH3 : Kept K2 ((K2.push (.cells true 2 [.int .i64 0, .slice none 0 0])).set K2.next (.cells true 2 [.int .i64 f.params, sd])) none := ((Kept.refl kK2.wf none).push _).set (Nat.le_refl _) (by simp) _
    have gd : ((K2.push (.cells true 2 [.int .i64 0, .slice none 0 0])).set K2.next (.cells true 2 [.int .i64 f.params, sd])).get K2.next = some (.cells true 2 [.int .i64 f.params, sd]) := get_set_self _ _ _
    generalize (K2.push (.cells true 2 [.int .i64 0, .slice none 0 0])).set K2.next (.cells true 2 [.int .i64 f.params, sd]) = H3 at *
    have kH23 := kK2.trans kH3
    have kK13 := kH2.trans kH23
    have hle1 := kK1.le
    have hle2 := kK2.le
    have hle3 := kH3.le
    have hlok := hI.lok
    -- the loops
    obtain ⟨a5, r5, j5, e58⟩ := s_R6 (call := call8 (roomOf f)) (lf := roomOf f) (env := a4) (H := H3)
    have hM : MI lo lo2 K1.next H3 H3 K1.next (.int .i64 f.params) sc src ss f.nodes := by
      refine ⟨hI.keep kK13.le hlo2 fun b _ hb => kK13.get b hb (by simp), Fr.refl kH3.wf, Nat.le_refl _, kH23.of_get kH2.wf gc (by simp), hlok, hlo2, fun j t b ht hb => ?_⟩
      have hj : j < f.nodes.length := by rw [← hI.len]; exact (List.getElem?_eq_some_iff.1 ht).1
      exact ((hI.new j _ t hj (List.getElem?_eq_getElem hj) ht).blk b hb).2
    obtain ⟨a6, K3, r6, j6, hM'⟩ := mu_loop (call := call8 (roomOf f)) (lf := roomOf f) f.nodes.length 0 (roomOf f) a5 H3 f.nodes rm1 (by omega) (by omega) (fun x hx => ⟨rm2 x hx, by have := n2 x hx; omega⟩) hM (j5.2.1.trans (e45.trans (e35.trans e25))) e58
    simp only [List.take_zero, List.nil_append, List.drop_zero] at hM'
    have fr := hM'.fr
    have j := j5.trans j6
    -- what stands at the end
    have x0 : Ext H K3 := fun b ob hb => by
      have hlt := hw.lt hb
      have h1 := k1.le
      rw [fr.get b (.inl (by omega))]
      exact kH23.of_get kH2.wf (x12 _ _ (x1 _ _ hb)) (by simp)
    have up1 : ∀ b ob, H1.get b = some ob → K3.get b = some ob := fun b ob hb => by
      have hlt := k1.wf.lt hb
      rw [fr.get b (.inl (by omega))]
      exact kH23.of_get kH2.wf (x12 _ _ hb) (by simp)
    have ga : K3.get H.next = some (.cells true 2 [.int .i64 f.params, s]) := up1 _ _ g1
    have gcc : K3.get K1.next = some (.cells true 2 [.int .i64 f.params, sc]) := by rw [fr.get _ (.inr (Nat.le_refl _))]; exact hM.box
    have gdd : K3.get K2.next = some (.cells true 2 [.int .i64 f.params, sd]) := by rw [fr.get _ (.inr (by omega))]; exact gd
    have hI2' := hI2.keep (K' := K3) (by rw [fr.next]; exact kH3.le) hlo2' fun b hb1 hb2 => by rw [fr.get b (.inr (by omega))]; exact kH3.get b hb2 (by simp)
    have hnd := hM'.ci.nodes
    have hff : fits ⟨f.params, f.nodes.map upN⟩ := fun x hx => by
      obtain ⟨y, hy, rfl⟩ := List.mem_map.1 hx
      have := n2 y hy
      simp only [upN, List.length_map]; omega
    obtain ⟨a7, r7, e74⟩ := s_R14 (lf := roomOf f) (env := a6) (p := f.params) ((j.1).trans (e42.trans (e32.trans (e22.trans (e12.trans e2))))) (j.2.1.trans (e45.trans (e35.trans e25))) (j.2.2.1.trans (e46.trans e36)) (j.2.2.2.trans e47) ga gcc gdd (ns.ext x0) (rdFit_of (rdFun_ext x0 hf) ff)
      (rdFit_of (rdFun_of hI2'.nodes) ff) (rdFit_of (rdFun_of (f := ⟨f.params, f.nodes.map upN⟩) hnd) hff) (by omega) hwf
    refine ⟨K3, ?_⟩
    have hloop : evCode Try.prog (call8 (roomOf f)) (roomOf f) 108 none (cAt Try.f8 [1, 1, 1, 1, 1, 0]) a4 [] H3 = some (.normal, a6, [], K3) := by
      rw [ev_then (c := cAt Try.f8 [1, 1, 1, 1, 1, 0]) (b := cAt Try.f8 [1, 1, 1, 1, 1, 0, 1]) rfl r5, show cAt Try.f8 [1, 1, 1, 1, 1, 0, 1] = .block 0 (.loop (cAt Try.f8 pMu)) from rfl, evCode_block, evCode_loop]
      rw [r6]
      rfl
    rw [start (o := (.ret, a7, [], K3))]
    · simp [fnEnd, Try.f8, e74]
    · rw [ev_then (c := cAt Try.f8 [1]) (b := cAt Try.f8 [1, 1]) rfl r1, ev_then (c := cAt Try.f8 [1, 1]) (b := cAt Try.f8 [1, 1, 1]) rfl r2, ev_then (c := cAt Try.f8 [1, 1, 1]) (b := cAt Try.f8 [1, 1, 1, 1]) rfl r3,
        ev_then (c := cAt Try.f8 [1, 1, 1, 1]) (b := cAt Try.f8 [1, 1, 1, 1, 1]) rfl r4, ev_then (c := cAt Try.f8 [1, 1, 1, 1, 1]) (b := cAt Try.f8 [1, 1, 1, 1, 1, 1]) rfl hloop, r7]
end Go.Proofs.Ytpopkajkekceiaa

namespace Go.Proofs.Ytpopkajkekceiaa
open Go Go.Abs
set_option maxRecDepth 100000
set_option linter.unusedSimpArgs false
set_option linter.unusedVariables false

/-- The numbers of nodes that come in are int64s. -/
theorem fun_wf_of_AR {D : Type} {H : Heap} {cs : List Value} {d : DataW D} {f : FunD} (h : AR Try.prog H 24 cs d) (hf : rdFun H (.agg cs.toArray) = some f) : ∀ x ∈ f.nodes, (Lit.int .i64 x.n).wf = true := by
  obtain ⟨hc, hx⟩ := AR_struct Try.underlying24 h
  rw [cells24] at hc
  match cs, hc with
  | [a, b], _ =>
    obtain ⟨d1, h1⟩ := hx 1 _ rfl
    simp [cells22] at h1
    obtain ⟨s, xs, hs, hr, _, he⟩ := AR_slice Try.underlying22 h1
    simp at hs
    subst hs
    obtain ⟨s', xs', hv, _, hs', hlen, hn⟩ := rdFun_inv hf
    simp at hv
    obtain ⟨_, rfl⟩ := hv
    rw [cells40] at hr
    rw [hs'] at hr
    cases hr
    intro x hx
    obtain ⟨i, hi, rfl⟩ := List.mem_iff_getElem.1 hx
    obtain ⟨t, g1, _⟩ := hn i _ (List.getElem?_eq_getElem hi)
    obtain ⟨d2, hd⟩ := he i _ g1
    obtain ⟨hc2, hf2⟩ := AR_struct Try.underlying40 hd
    obtain ⟨d3, g3⟩ := hf2 1 _ rfl
    simp [cells2] at g3
    obtain ⟨m, e, hw⟩ := AR_int Try.underlying2 g3
    simp at e
    rw [e]; exact hw
end Go.Proofs.Ytpopkajkekceiaa
