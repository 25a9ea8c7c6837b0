/-
  A part of a proof: texts laid behind one another (V26, V27, V28, V29, V30, V31, V32).
-/
import Derived.Test.YtgopamojnoefiaaGV3
namespace Go.Proofs.Ytgopamojnoefiaa
open Go Go.Abs
set_option maxRecDepth 100000
set_option linter.unusedSimpArgs false
set_option linter.unusedVariables false

/-! ### Values of their own -/
/-- A row of its own: nothing, or what it says in a block that is new. -/
def rowI (es lo : Nat) (H : Heap) (xs : List (List Value)) (v : Value) : Prop :=
  (xs = [] ∧ v = .slice none 0 0) ∨ ∃ b c, v = .slice (some ⟨b, 0, none⟩) xs.length c ∧ H.get b = some (.cells true es xs.flatten) ∧ lo ≤ b ∧ b < H.next ∧ ((xs = [] ∧ c = 0) ∨ c = BIG)
theorem rowI.rd {es lo : Nat} {H : Heap} {xs : List (List Value)} {v : Value} (h : rowI es lo H xs v) (hes : ∀ x ∈ xs, x.length = es) : rdS H es v = some xs := by
  rcases h with ⟨rfl, rfl⟩ | ⟨b, c, rfl, h1, h2, h3, h4⟩
  · rfl
  · rcases h4 with ⟨rfl, rfl⟩ | rfl
    · simp [rdS, h1, capA, chunks]
    · exact rd_of_cells h1 hes
theorem rowI.ok {es lo : Nat} {H : Heap} {xs : List (List Value)} {v : Value} (h : rowI es lo H xs v) : sliceOk H es v := by
  rcases h with ⟨rfl, rfl⟩ | ⟨b, c, rfl, h1, h2, h3, h4⟩
  · trivial
  · exact .inr ⟨true, _, h1⟩
theorem rowI.low {es lo lo' : Nat} {H : Heap} {xs : List (List Value)} {v : Value} (h : rowI es lo H xs v) (hl : lo' ≤ lo) : rowI es lo' H xs v := by
  rcases h with h | ⟨b, c, h1, h2, h3, h4⟩
  · exact .inl h
  · exact .inr ⟨b, c, h1, h2, by omega, h4⟩
theorem rowI.keep {es lo : Nat} {H K : Heap} {xs : List (List Value)} {v : Value} (h : rowI es lo H xs v) (k : Kept H K none) : rowI es lo K xs v := by
  rcases h with h | ⟨b, c, h1, h2, h3, h4, h5⟩
  · exact .inl h
  · exact .inr ⟨b, c, h1, by rw [k.get b h4 (by simp)]; exact h2, h3, Nat.lt_of_lt_of_le h4 k.le, h5⟩
theorem rowI.blk {es lo : Nat} {H : Heap} {xs : List (List Value)} {v : Value} (h : rowI es lo H xs v) : ∀ b, blockOf v = some b → lo ≤ b ∧ b < H.next := by
  rcases h with ⟨_, rfl⟩ | ⟨b, c, rfl, h1, h2, h3, h4⟩
  · intro b hb; cases hb
  · intro b' hb; cases hb; exact ⟨h2, h3⟩
theorem rowI.one {es lo : Nat} {H : Heap} {xs : List (List Value)} {v : Value} (h : rowI es lo H xs v) : v.cells = #[v] ∧ oneC v = true ∧ eqV v v = true ∧ eq0 v v = true := by
  rcases h with ⟨_, rfl⟩ | ⟨b, c, rfl, _⟩
  · exact ⟨rfl, rfl, by rfl, by rfl⟩
  · exact ⟨rfl, rfl, by simp, by simp⟩
theorem build0_23 {H : Heap} : buildSliceA Try.prog 23 0 [] H = some (.slice (some ⟨H.next, 0, none⟩) 0 0, H.push (.cells true 3 [])) := by kernel_rfl

/-! ### slices.Clone (76) -/
theorem clone_run {call : CallF} {lf : Nat} {H : Heap} {s : Value} {cs : List (List Value)} (hw : H.Wf) (hs : rdS H 3 s = some cs) (hn : cs.length ≤ 1073741824) (h1 : cs.flatten.all oneC = true) :
    ∃ s' H', evFn Try.prog call lf 76 [s] H = some (.ret s', H') ∧ Kept H H' none ∧ rowI 3 H.next H' cs s' := by
  generalize hr : evFn Try.prog call lf 76 [s] H = out
  rcases rdS_form hs with ⟨rfl, hx⟩ | ⟨a, n, c, rfl⟩
  · simp [Try.f76, eqA, Try.underlying23] at hr
    subst hr
    exact ⟨_, _, rfl, Kept.refl hw _, .inl ⟨hx, rfl⟩⟩
  · have k1 := (Kept.refl hw none).push (.cells true 3 [])
    have hr2 := rdS_ext (k1.ext hw) hs
    have he : rdS (H.push (.cells true 3 [])) 3 (.slice (some ⟨H.next, 0, none⟩) 0 0) = some [] := by simp [rdS, get_push_self, capA, chunks]
    by_cases h0 : cs.length = 0
    · have ap := app_none (P := Try.prog) (t := 23) (H := H.push (.cells true 3 [])) elem23 zero25 (by decide) (by simp) (by rfl) (v := .slice (some ⟨H.next, 0, none⟩) 0 0) (xv := []) (by simp; exact he) (by simp) (by simp; exact hr2) h0
      simp [Try.f76, eqA, Try.underlying23, build0_23, ap] at hr
      subst hr
      have : cs = [] := List.eq_nil_of_length_eq_zero h0
      subst this
      exact ⟨_, _, rfl, k1, .inr ⟨H.next, 0, rfl, get_push_self _ _, Nat.le_refl _, by simp, .inl ⟨rfl, rfl⟩⟩⟩
    · have ap := app_full (P := Try.prog) (t := 23) (H := H.push (.cells true 3 [])) (b := H.next) (n := 0) (c := 0) elem23 zero25 (by decide) (by simp) (by rfl) k1.wf (xv := []) (by simp; exact he) (by rw [BIG_val]; omega) (by omega) (x := .slice (some a) n c) (by simp; exact hr2) (by omega) h1 (by omega)
      simp [Try.f76, eqA, Try.underlying23, build0_23, ap] at hr
      subst hr
      refine ⟨_, _, rfl, k1.push _, .inr ⟨H.next + 1, BIG, by simp, ?_, by omega, by simp, .inr rfl⟩⟩
      have := get_push_self (H.push (.cells true 3 [])) (.cells true 3 cs.flatten)
      simpa using this

/-- A value whose rows all stand in blocks at or behind lo. -/
inductive VOwn (lo : Nat) (H : Heap) : ValD → List Value → Prop
  | mk {k n : Int} {s : Value} {xs : List (List Value)} {l : List ValD} (hr : rowI 3 lo H xs s) (hl : xs.length = l.length) (hx : ∀ (i : Nat) x v, xs[i]? = some x → l[i]? = some v → VOwn lo H v x) : VOwn lo H (.mk k n l) [.int .i64 k, .int .i64 n, s]
theorem VOwn.inv {lo : Nat} {H : Heap} {d : ValD} {cs : List Value} (h : VOwn lo H d cs) : ∃ s xs, cs = [.int .i64 d.kind, .int .i64 d.num, s] ∧ rowI 3 lo H xs s ∧ xs.length = d.own.length ∧ ∀ (i : Nat) x v, xs[i]? = some x → d.own[i]? = some v → VOwn lo H v x := by
  cases h with
  | mk hr hl hx => exact ⟨_, _, rfl, hr, hl, hx⟩
theorem VOwn.of {lo : Nat} {H : Heap} {d : ValD} {s : Value} {xs : List (List Value)} (hr : rowI 3 lo H xs s) (hl : xs.length = d.own.length) (hx : ∀ (i : Nat) x v, xs[i]? = some x → d.own[i]? = some v → VOwn lo H v x) : VOwn lo H d [.int .i64 d.kind, .int .i64 d.num, s] := by
  cases d; exact .mk hr hl hx
theorem VOwn.three {lo : Nat} {H : Heap} {l : List ValD} {xs : List (List Value)} (hl : xs.length = l.length) (hx : ∀ (i : Nat) x v, xs[i]? = some x → l[i]? = some v → VOwn lo H v x) : ∀ x ∈ xs, x.length = 3 := by
  intro x hm
  obtain ⟨i, hi, rfl⟩ := List.mem_iff_getElem.1 hm
  have := hx i _ _ (List.getElem?_eq_getElem hi) (List.getElem?_eq_getElem (by rw [← hl]; exact hi))
  obtain ⟨s, _, e, _⟩ := this.inv
  rw [e]; rfl
theorem VOwn.at {lo : Nat} {H : Heap} : ∀ {d : ValD} {cs : List Value}, VOwn lo H d cs → VAt H d cs := by
  intro d
  induction d using ValD.ind with
  | h d ih =>
    intro cs h
    obtain ⟨s, xs, rfl, hr, hl, hx⟩ := h.inv
    exact .of hr.ok (hr.rd (VOwn.three hl hx)) hl fun i x v a b => ih v (List.mem_of_getElem? b) (hx i x v a b)
/-- What stands at or behind lo is as it was. -/
def SameFrom (lo : Nat) (H H' : Heap) : Prop := H.next ≤ H'.next ∧ ∀ b ob, lo ≤ b → H.get b = some ob → H'.get b = some ob
theorem rowI.from {es lo : Nat} {H K : Heap} {xs : List (List Value)} {v : Value} (h : rowI es lo H xs v) (k : SameFrom lo H K) : rowI es lo K xs v := by
  rcases h with h | ⟨b, c, h1, h2, h3, h4, h5⟩
  · exact .inl h
  · exact .inr ⟨b, c, h1, k.2 b _ h3 h2, h3, Nat.lt_of_lt_of_le h4 k.1, h5⟩
theorem VOwn.from {lo : Nat} {H K : Heap} (k : SameFrom lo H K) : ∀ {d : ValD} {cs : List Value}, VOwn lo H d cs → VOwn lo K d cs := by
  intro d
  induction d using ValD.ind with
  | h d ih =>
    intro cs h
    obtain ⟨s, xs, rfl, hr, hl, hx⟩ := h.inv
    exact .of (hr.from k) hl fun i x v a b => ih v (List.mem_of_getElem? b) (hx i x v a b)
theorem VOwn.low {lo lo' : Nat} {H : Heap} (hlo : lo' ≤ lo) : ∀ {d : ValD} {cs : List Value}, VOwn lo H d cs → VOwn lo' H d cs := by
  intro d
  induction d using ValD.ind with
  | h d ih =>
    intro cs h
    obtain ⟨s, xs, rfl, hr, hl, hx⟩ := h.inv
    exact .of (hr.low hlo) hl fun i x v a b => ih v (List.mem_of_getElem? b) (hx i x v a b)
theorem kept_from {H K : Heap} (k : Kept H K none) (hw : H.Wf) (lo : Nat) : SameFrom lo H K := ⟨k.le, fun b ob _ hb => k.of_get hw hb (by simp)⟩
end Go.Proofs.Ytgopamojnoefiaa

namespace Go.Proofs.Ytgopamojnoefiaa
open Go Go.Abs
set_option maxRecDepth 100000
set_option linter.unusedSimpArgs false
set_option linter.unusedVariables false

/-! ### copied (56) -/
def pCp : List Nat := [1, 1, 0, 1, 0, 0]
theorem cp_exit {call : CallF} {lf : Nat} {env : Env} {H : Heap} {i n : Nat} (e11 : env.val 11 = .int .i64 n) (e12 : env.val 12 = .int .i64 i) (hi : n ≤ i) :
    ∃ env', evCode Try.prog call lf 25 none (cAt Try.f56 pCp) env [] H = some (.exit 0, env', [], H) ∧ env'.val 1 = env.val 1 ∧ env'.val 2 = env.val 2 := by
  have c1 : ¬ (i : Int) < (n : Int) := by omega
  generalize hr : evCode Try.prog call lf 25 none (cAt Try.f56 pCp) env [] H = out
  simp [pCp, Try.f56, e11, e12, c1, hi] at hr
  subst hr
  exact ⟨_, rfl, by simp, by simp⟩
theorem cp_step {call : CallF} {lf : Nat} {env : Env} {K K2 K3 : Heap} {b1 b i n : Nat} {k m : Int} {s s' : Value} (e1 : env.val 1 = .pointer (some ⟨b1, 0, none⟩)) (e10 : env.val 10 = .slice (some ⟨b, 0, none⟩) n BIG) (e11 : env.val 11 = .int .i64 n) (e12 : env.val 12 = .int .i64 i) (hi : i < n) (hn : n < 1099511627776)
    (ix : indexAddrA Try.prog 23 (.slice (some ⟨b, 0, none⟩) n BIG) (i : Int) = some (.pointer (some ⟨b, i * 3, none⟩))) (lv : loadA Try.prog 25 K b (i * 3) = some (.agg #[.int .i64 k, .int .i64 m, s])) (os : oneC s = true)
    (l2 : loadA Try.prog 23 (valIn K k m s) b1 2 = some (.slice (some ⟨b, 0, none⟩) n BIG)) (l4 : loadA Try.prog 25 (valIn K k m s) K.next 0 = some (.agg #[.int .i64 k, .int .i64 m, s]))
    (hc : call (.fn 56 [.agg #[.int .i64 k, .int .i64 m, s]]) (valIn K k m s) = some (.ret (.agg #[.int .i64 k, .int .i64 m, s']), K2)) (os' : oneC s' = true)
    (l22 : loadA Try.prog 23 K2 b1 2 = some (.slice (some ⟨b, 0, none⟩) n BIG))
    (st : storeA Try.prog 25 K2 b (i * 3) (.agg #[.int .i64 k, .int .i64 m, s']) = some K3) :
    ∃ env', evCode Try.prog call lf 25 none (cAt Try.f56 pCp) env [] K = some (.normal, env', [], K3) ∧ env'.val 1 = env.val 1 ∧ env'.val 2 = env.val 2 ∧ env'.val 10 = env.val 10 ∧ env'.val 11 = env.val 11 ∧ env'.val 12 = .int .i64 ((i + 1 : Nat) : Int) := by
  have c1 : (i : Int) < (n : Int) := by omega
  have w1 : IntKind.i64.wrap ((i : Int) + 1) = (i : Int) + 1 := wrapI (by omega) (by omega)
  have st0 := store25 (H := K) (k := k) (n := m) os
  generalize hr : evCode Try.prog call lf 25 none (cAt Try.f56 pCp) env [] K = out
  simp [pCp, Try.f56, e1, e10, e11, e12, c1, hi, ix, lv, st0] at hr
  rw [evDraw_tab (tab := [(1, [6])])] at hr
  · simp [e1, e10, e11, e12, ix, l2, l4, callA, hc, st, l22, w1] at hr
    subst hr
    exact ⟨_, rfl, by simp [e1], by simp, by simp [e10], by simp [e11], by simp⟩
  · kernel_rfl
  · kernel_rfl
theorem SameFrom.refl (lo : Nat) (H : Heap) : SameFrom lo H H := ⟨Nat.le_refl _, fun _ _ _ h => h⟩
theorem SameFrom.set {lo : Nat} {H : Heap} {b : Nat} (hb : b < lo) (o : AObj) : SameFrom lo H (H.set b o) := ⟨by simp, fun c ob hc h => by rw [get_set_ne (by omega)]; exact h⟩
theorem SameFrom.trans {lo : Nat} {A B C : Heap} (h : SameFrom lo A B) (k : SameFrom lo B C) : SameFrom lo A C := ⟨Nat.le_trans h.1 k.1, fun b ob hb ha => k.2 b ob hb (h.2 b ob hb ha)⟩
theorem SameFrom.low {lo lo' : Nat} {A B : Heap} (h : SameFrom lo A B) (hl : lo ≤ lo') : SameFrom lo' A B := ⟨h.1, fun b ob hb ha => h.2 b ob (by omega) ha⟩

theorem cp_loop {call : CallF} {lf : Nat} {H H0 : Heap} {b1 b : Nat} {l : List ValD} {c1 : List Value} (hwH : H.Wf) (hw0 : H0.Wf) (g1 : H0.get b1 = some (.cells true 3 c1)) (hne : b1 ≠ b) (hl1 : ∀ K : Heap, K.get b1 = some (.cells true 3 c1) → loadA Try.prog 23 K b1 2 = some (.slice (some ⟨b, 0, none⟩) l.length BIG)) (hn : l.length < 1099511627776) (hb : b < H0.next) (hHb : H.next ≤ b)
    (hcall : ∀ v ∈ l, ∀ (K : Heap) (x : Value), K.Wf → rdVal K x = some v → ∃ s' K', call (.fn 56 [x]) K = some (.ret (.agg #[.int .i64 v.kind, .int .i64 v.num, s']), K') ∧ Kept K K' none ∧ VOwn K.next K' v [.int .i64 v.kind, .int .i64 v.num, s']) :
    ∀ (d i m : Nat) (env : Env) (K : Heap) (ys : List (List Value)), d < m → l.length = i + d → Kept H0 K (some b) → Kept H K none → K.get b = some (.cells true 3 ys.flatten) → ys.length = l.length → (∀ x ∈ ys, x.length = 3) → (∀ (j : Nat) x v, j < i → ys[j]? = some x → l[j]? = some v → VOwn H0.next K v x) → (∀ (j : Nat) x v, i ≤ j → ys[j]? = some x → l[j]? = some v → VAt H v x) →
      env.val 1 = .pointer (some ⟨b1, 0, none⟩) → env.val 10 = .slice (some ⟨b, 0, none⟩) l.length BIG → env.val 11 = .int .i64 l.length → env.val 12 = .int .i64 i →
    ∃ env' K', ∃ ys' : List (List Value), evLoop Try.prog call lf 25 none (cAt Try.f56 pCp) m env [] K = some (.exit 0, env', [], K') ∧ env'.val 1 = env.val 1 ∧ env'.val 2 = env.val 2 ∧ Kept H0 K' (some b) ∧ Kept H K' none ∧ K'.get b = some (.cells true 3 ys'.flatten) ∧ ys'.length = l.length ∧ (∀ (j : Nat) x v, ys'[j]? = some x → l[j]? = some v → VOwn H0.next K' v x)
  | d, i, 0, env, K, ys, hm, _, _, _, _, _, _, _, _, _, _, _, _ => by omega
  | 0, i, m + 1, env, K, ys, hm, hd, hk, hkH, hg, hy, _, ho, _, e1, e10, e11, e12 => by
    obtain ⟨env', he, u1, u2⟩ := cp_exit (call := call) (lf := lf) (H := K) e11 e12 (by omega)
    simp only [evLoop_succ, he]
    refine ⟨env', K, ys, rfl, u1, u2, hk, hkH, hg, hy, fun j x v hx hv => ho j x v ?_ hx hv⟩
    have := (List.getElem?_eq_some_iff.1 hv).1
    omega
  | d + 1, i, m + 1, env, K, ys, hm, hd, hk, hkH, hg, hy, hy3, ho, hv, e1, e10, e11, e12 => by
    have hx := List.getElem?_eq_getElem (l := l) (i := i) (by omega)
    have hyx := List.getElem?_eq_getElem (l := ys) (i := i) (by omega)
    have hva := hv i _ _ (Nat.le_refl _) hyx hx
    obtain ⟨s, ey, _, os, _⟩ := hva.one
    rw [ey] at hva hyx
    have hrd : rdS K 3 (.slice (some ⟨b, 0, none⟩) l.length BIG) = some ys := by rw [← hy]; exact rd_of_cells hg hy3
    have ix := rdS_index hrd Try.underlying23 info25 size25 (n := (i : Int)) (by omega) (by omega)
    simp only [blk, offs, Int.toNat_natCast, Nat.zero_add] at ix
    have lv := rdS_loadA hrd hyx (t := 25) info25 size25 Try.underlying25 rfl
    simp only [blk, offs, Nat.zero_add] at lv
    have k1 := valIn_kept hk.wf (l[i]'(by omega)).kind (l[i]'(by omega)).num s
    have g4 := valIn_self K (l[i]'(by omega)).kind (l[i]'(by omega)).num s
    have hbK : b < K.next := hk.wf.lt hg
    have gb1 := hk.of_get hw0 g1 (by simpa using hne)
    have hb1K := hk.wf.lt gb1
    have hvK1 := rdVal_of (hva.ext ((hkH.trans k1).ext hwH))
    obtain ⟨s', K2, hc, k2, hown⟩ := hcall _ (List.getElem_mem (l := l) (n := i) (by omega)) _ _ k1.wf hvK1
    obtain ⟨s2, xs2, e2, hr2, _⟩ := hown.inv
    simp only [List.cons.injEq, true_and, and_true] at e2
    subst e2
    have os' := hr2.one.2.1
    have gbK2 := (k1.trans k2).of_get hk.wf hg (by simp)
    have gb1K2 := (k1.trans k2).of_get hk.wf gb1 (by simp)
    have hput : putL ys.flatten (i * 3) [.int .i64 (l[i]'(by omega)).kind, .int .i64 (l[i]'(by omega)).num, s'] = (ys.set i [.int .i64 (l[i]'(by omega)).kind, .int .i64 (l[i]'(by omega)).num, s']).flatten := flatten_put ys i _ hy3 rfl (by omega)
    have hfl : ys.flatten.length = ys.length * 3 := flatten_length ys hy3
    have st : storeA Try.prog 25 K2 b (i * 3) (.agg #[.int .i64 (l[i]'(by omega)).kind, .int .i64 (l[i]'(by omega)).num, s']) = some (K2.set b (.cells true 3 (ys.set i [.int .i64 (l[i]'(by omega)).kind, .int .i64 (l[i]'(by omega)).num, s']).flatten)) := by
      simp only [storeA, gbK2, info25, size25, cells_agg]
      rw [if_pos ⟨rfl, by omega, by simp [os']⟩, hput]
    have l4 : loadA Try.prog 25 (valIn K (l[i]'(by omega)).kind (l[i]'(by omega)).num s) K.next 0 = some (.agg #[.int .i64 (l[i]'(by omega)).kind, .int .i64 (l[i]'(by omega)).num, s]) := by simp [loadA, g4]
    obtain ⟨env', he, u1, u2, u10, u11, u12⟩ := cp_step (lf := lf) e1 e10 e11 e12 (by omega) hn ix lv os (hl1 _ (k1.of_get hk.wf gb1 (by simp))) l4 hc os' (hl1 _ gb1K2) st
    have hnb : b < K2.next := k2.wf.lt gbK2
    have kk := ((hk.trans (k1.weak _)).trans (k2.weak _)).kill hnb (.cells true 3 (ys.set i [.int .i64 (l[i]'(by omega)).kind, .int .i64 (l[i]'(by omega)).num, s']).flatten)
    have kkH := ((hkH.trans k1).trans k2).set hHb hnb (.cells true 3 (ys.set i [.int .i64 (l[i]'(by omega)).kind, .int .i64 (l[i]'(by omega)).num, s']).flatten)
    have sf := (kept_from (k1.trans k2) hk.wf H0.next).trans (SameFrom.set hb (.cells true 3 (ys.set i [.int .i64 (l[i]'(by omega)).kind, .int .i64 (l[i]'(by omega)).num, s']).flatten))
    obtain ⟨e2, K', ys', r, t1, t2, r1, r2, r3, r4, r5⟩ := cp_loop hwH hw0 g1 hne hl1 hn hb hHb hcall d (i + 1) m env' _ (ys.set i [.int .i64 (l[i]'(by omega)).kind, .int .i64 (l[i]'(by omega)).num, s']) (by omega) (by omega) kk kkH (get_set_self _ _ _) (by simp [hy])
      (fun x hm => by
        rcases List.mem_or_eq_of_mem_set hm with hm | rfl
        · exact hy3 x hm
        · rfl)
      (fun j x v hj hxj hvj => by
        by_cases hji : j = i
        · subst hji
          rw [List.getElem?_set_self (by omega)] at hxj
          cases hxj
          rw [hx] at hvj; cases hvj
          exact (hown.low (Nat.le_trans hk.le k1.le)).from (SameFrom.set hb _)
        · rw [List.getElem?_set_ne (by omega)] at hxj
          exact (ho j x v (by omega) hxj hvj).from sf)
      (fun j x v hj hxj hvj => by
        rw [List.getElem?_set_ne (by omega)] at hxj
        exact hv j x v (by omega) hxj hvj)
      (u1.trans e1) (u10.trans e10) (u11.trans e11) u12
    simp only [evLoop_succ, he]
    exact ⟨e2, K', ys', r, t1.trans u1, t2.trans u2, r1, r2, r3, r4, r5⟩
theorem with_nil {lf k : Nat} {f : FuncId} {args : List Value} {H : Heap} : evWith Try.prog lf [] (k + 1) (.fn f args) H = evFn Try.prog (evWith Try.prog lf [] k) lf f args H := by
  simp only [evWith, callOf]; rfl
theorem copied_run {lf : Nat} : ∀ (k : Nat) (H : Heap) (v : Value) (d : ValD), d.size ≤ k → d.size < lf → lf ≤ 1000000 → H.Wf → rdVal H v = some d →
    ∃ s' H', evWith Try.prog lf [] (k + 1) (.fn 56 [v]) H = some (.ret (.agg #[.int .i64 d.kind, .int .i64 d.num, s']), H') ∧ Kept H H' none ∧ VOwn H.next H' d [.int .i64 d.kind, .int .i64 d.num, s']
  | 0, H, v, d, hd, _, _, _, _ => by have := ValD.size_pos d; omega
  | k + 1, H, v, d, hd, hlf, hlf2, hw, hv => by
    rw [with_nil]
    obtain ⟨s, xs, rfl, h1, h2, h3, hva, sc, os, _⟩ := rdVal_cells hv
    have hlen := ValD.length_sizes d.own
    have hse := ValD.size_eq d
    have h76 : ∀ args K, evWith Try.prog lf [] (k + 1) (.fn 76 args) K = evFn Try.prog (evWith Try.prog lf [] k) lf 76 args K := fun args K => with_nil
    have hcall : ∀ w ∈ d.own, ∀ (K : Heap) (x : Value), K.Wf → rdVal K x = some w → ∃ s' K', evWith Try.prog lf [] (k + 1) (.fn 56 [x]) K = some (.ret (.agg #[.int .i64 w.kind, .int .i64 w.num, s']), K') ∧ Kept K K' none ∧ VOwn K.next K' w [.int .i64 w.kind, .int .i64 w.num, s'] := by
      intro w hm K x hwK hx
      have := ValD.mem_size hm
      exact copied_run k K x w (by omega) (by omega) hlf2 hwK hx
    have h76' : ∀ (K : Heap) (w : Value) (cs : List (List Value)), K.Wf → rdS K 3 w = some cs → cs.length ≤ 1073741824 → cs.flatten.all oneC = true → ∃ s' H', evWith Try.prog lf [] (k + 1) (.fn 76 [w]) K = some (.ret s', H') ∧ Kept K H' none ∧ rowI 3 K.next H' cs s' := by
      intro K w cs hwK hr hn ha
      rw [h76]
      exact clone_run hwK hr hn ha
    generalize evWith Try.prog lf [] (k + 1) = call at hcall h76'
    have k1 := ((Kept.refl hw none).push (.cells true 3 [.int .i64 d.kind, .int .i64 d.num, s])).push (.cells true 3 [.int .i64 0, .int .i64 0, .slice none 0 0])
    have g1 : ((H.push (.cells true 3 [.int .i64 d.kind, .int .i64 d.num, s])).push (.cells true 3 [.int .i64 0, .int .i64 0, .slice none 0 0])).get H.next = some (.cells true 3 [.int .i64 d.kind, .int .i64 d.num, s]) := by rw [get_push_ne (by simp)]; exact get_push_self _ _
    have g2 : ((H.push (.cells true 3 [.int .i64 d.kind, .int .i64 d.num, s])).push (.cells true 3 [.int .i64 0, .int .i64 0, .slice none 0 0])).get (H.next + 1) = some (.cells true 3 [.int .i64 0, .int .i64 0, .slice none 0 0]) := get_push_self (H.push _) _
    have n1 : ((H.push (.cells true 3 [.int .i64 d.kind, .int .i64 d.num, s])).push (.cells true 3 [.int .i64 0, .int .i64 0, .slice none 0 0])).next = H.next + 2 := rfl
    generalize hH1 : (H.push (.cells true 3 [.int .i64 d.kind, .int .i64 d.num, s])).push (.cells true 3 [.int .i64 0, .int .i64 0, .slice none 0 0]) = H1 at *
    have ld1 : loadA Try.prog 23 H1 H.next 2 = some s := by simp [loadA, g1, sc]
    have hvs : VsC H d.own xs := ⟨h2, fun i x v a b => h3 i x v a b⟩
    obtain ⟨s', H2, c76, k2, hrow⟩ := h76' H1 s xs k1.wf (rdS_ext (k1.ext hw) h1) (by omega) hvs.all
    have g12 := k2.of_get k1.wf g1 (by simp)
    have g22 := k2.of_get k1.wf g2 (by simp)
    have hx3 : ∀ x ∈ xs, x.length = 3 := fun x hx => by
      obtain ⟨i, hi, rfl⟩ := List.mem_iff_getElem.1 hx
      exact rdS_elem h1 (List.getElem?_eq_getElem hi)
    obtain ⟨sc', os', _, _⟩ := hrow.one
    have st1 : storeA Try.prog 23 H2 H.next 2 s' = some (H2.set H.next (.cells true 3 [.int .i64 d.kind, .int .i64 d.num, s'])) := by simp [storeA, g12, os', sc', putL]
    have hl1 := k2.wf.lt g12
    have k3 := (k1.trans k2).set (Nat.le_refl _) hl1 (.cells true 3 [.int .i64 d.kind, .int .i64 d.num, s'])
    have g13 : (H2.set H.next (.cells true 3 [.int .i64 d.kind, .int .i64 d.num, s'])).get H.next = _ := get_set_self _ _ _
    have g23 : (H2.set H.next (.cells true 3 [.int .i64 d.kind, .int .i64 d.num, s'])).get (H.next + 1) = some (.cells true 3 [.int .i64 0, .int .i64 0, .slice none 0 0]) := by rw [get_set_ne (by omega)]; exact g22
    have n3 : (H2.set H.next (.cells true 3 [.int .i64 d.kind, .int .i64 d.num, s'])).next = H2.next := by simp
    have hrow3 : rowI 3 H1.next (H2.set H.next (.cells true 3 [.int .i64 d.kind, .int .i64 d.num, s'])) xs s' := hrow.from (SameFrom.set (by omega) _)
    generalize hH3 : H2.set H.next (.cells true 3 [.int .i64 d.kind, .int .i64 d.num, s']) = H3 at *
    have ld3 : loadA Try.prog 23 H3 H.next 2 = some s' := by simp [loadA, g13, sc']
    have hl := len_of (H' := H3) (P := Try.prog) (t := 23) (hrow3.rd hx3) Try.underlying23
    rw [h2] at hl
    generalize hE : evFn Try.prog call lf 56 [.agg #[.int .i64 d.kind, .int .i64 d.num, s]] H = out
    have hr := hE
    simp [Try.f56, os, hH1, ld1, callA, c76, st1, hH3, ld3, hl] at hr
    generalize hL0 : evLoop _ _ _ _ _ _ _ _ _ _ = L at hr
    have aux : ∀ env, evLoop Try.prog call lf 25 none (cAt Try.f56 pCp) lf env [] H3 = L → env.val 1 = .pointer (some ⟨H.next, 0, none⟩) → env.val 2 = .pointer (some ⟨H.next + 1, 0, none⟩) → env.val 10 = s' → env.val 11 = .int .i64 d.own.length → env.val 12 = .int .i64 (0 : Nat) →
        ∃ env' K', L = some (.exit 0, env', [], K') ∧ env'.val 1 = .pointer (some ⟨H.next, 0, none⟩) ∧ env'.val 2 = .pointer (some ⟨H.next + 1, 0, none⟩) ∧ Kept H K' none ∧ K'.get H.next = some (.cells true 3 [.int .i64 d.kind, .int .i64 d.num, s']) ∧ K'.get (H.next + 1) = some (.cells true 3 [.int .i64 0, .int .i64 0, .slice none 0 0]) ∧ VOwn H1.next K' d [.int .i64 d.kind, .int .i64 d.num, s'] := by
      intro env hL e1 e2 e10 e11 e12
      by_cases h0 : d.own.length = 0
      · have hx0 : xs = [] := List.eq_nil_of_length_eq_zero (by omega)
        obtain ⟨env', he, u1, u2⟩ := cp_exit (call := call) (lf := lf) (H := H3) e11 e12 (by omega)
        obtain ⟨m, rfl⟩ : ∃ m, lf = m + 1 := ⟨lf - 1, by omega⟩
        rw [evLoop_succ, he] at hL
        refine ⟨env', H3, hL.symm, u1.trans e1, u2.trans e2, k3, g13, g23, ?_⟩
        exact .of hrow3 h2 fun i x v a b => by rw [hx0] at a; simp at a
      · have hrow' := hrow3
        rcases hrow3 with ⟨hx0, _⟩ | ⟨b, c, rfl, hgb, hlo, hbn, hc⟩
        · rw [hx0] at h2; simp at h2; omega
        · have hc' : c = BIG := by
            rcases hc with ⟨hx0, _⟩ | hc
            · rw [hx0] at h2; simp at h2; omega
            · exact hc
          subst hc'
          have e10' : env.val 10 = .slice (some ⟨b, 0, none⟩) d.own.length BIG := by rw [← h2]; exact e10
          obtain ⟨env', K', ys', r, t1, t2, r1, r2, r3, r4, r5⟩ := cp_loop (lf := lf) (H := H) (H0 := H3) (b1 := H.next) (b := b) (l := d.own) hw k3.wf g13 (by omega) (fun K hK => by simp [loadA, hK, h2]) (by omega) hbn (by omega) hcall
            d.own.length 0 lf env H3 xs (by omega) (by omega) (Kept.refl k3.wf _) k3 hgb h2 hx3 (fun j x v hj => by omega) (fun j x v _ a b => h3 j x v a b) e1 e10' e11 e12
          refine ⟨env', K', hL.symm.trans r, t1.trans e1, t2.trans e2, r2, r1.of_get k3.wf g13 (by simp; omega), r1.of_get k3.wf g23 (by simp; omega), ?_⟩
          exact .of (.inr ⟨b, BIG, by rw [r4, h2], r3, hlo, r3 |> r2.wf.lt, .inr rfl⟩) r4 fun i x v a b => (r5 i x v a b).low (by omega)
    obtain ⟨env', K', rfl, t1, t2, kk, gg1, gg2, hown⟩ := aux _ hL0 (by simp) (by simp) (by simp) (by simp) (by simp)
    have l5 : loadA Try.prog 25 K' H.next 0 = some (.agg #[.int .i64 d.kind, .int .i64 d.num, s']) := by simp [loadA, gg1]
    have st5 : storeA Try.prog 25 K' (H.next + 1) 0 (.agg #[.int .i64 d.kind, .int .i64 d.num, s']) = some (K'.set (H.next + 1) (.cells true 3 [.int .i64 d.kind, .int .i64 d.num, s'])) := by simp [storeA, gg2, os', putL]
    have l6 : loadA Try.prog 25 (K'.set (H.next + 1) (.cells true 3 [.int .i64 d.kind, .int .i64 d.num, s'])) (H.next + 1) 0 = some (.agg #[.int .i64 d.kind, .int .i64 d.num, s']) := by simp [loadA, get_set_self]
    have hl2 := kk.wf.lt gg2
    refine ⟨s', K'.set (H.next + 1) (.cells true 3 [.int .i64 d.kind, .int .i64 d.num, s']), ?_, kk.set (by omega) hl2 _, (hown.from (SameFrom.set (by omega) _)).low (by omega)⟩
    simp [t1, t2, l5, st5, l6] at hr
    exact hr.symm
end Go.Proofs.Ytgopamojnoefiaa

namespace Go.Proofs.Ytgopamojnoefiaa
open Go Go.Abs
set_option maxRecDepth 100000
set_option linter.unusedSimpArgs false
set_option linter.unusedVariables false

/-! ### The reference's same (57), Same (20) -/
mutual
def sameL : ValD → ValD → Bool
  | .mk k n l, .mk k' n' l' => (decide (k = k') && (decide (n = n') && decide (l.length = l'.length))) && sameLs l l'
def sameLs : List ValD → List ValD → Bool
  | [], _ => true
  | v :: l, r => match r with
    | [] => true
    | w :: r => sameL v w && sameLs l r
end
theorem sameL_eq (a b : ValD) : sameL a b = ((decide (a.kind = b.kind) && (decide (a.num = b.num) && decide (a.own.length = b.own.length))) && sameLs a.own b.own) := by
  cases a; cases b; rw [sameL]; rfl
theorem sameL_iff : ∀ (a b : ValD), sameL a b = true ↔ a = b := by
  intro a
  induction a using ValD.ind with
  | h a ih =>
    intro b
    have key : ∀ (l r : List ValD), (∀ w ∈ l, w ∈ a.own) → l.length = r.length → (sameLs l r = true ↔ l = r) := by
      intro l
      induction l with
      | nil => intro r _ h; cases r with
        | nil => simp [sameLs]
        | cons w r => simp at h
      | cons v l ihl =>
        intro r hm h
        cases r with
        | nil => simp at h
        | cons w r =>
          simp only [sameLs, Bool.and_eq_true, List.cons.injEq]
          rw [ih v (hm v (by simp)) w, ihl r (fun x hx => hm x (by simp [hx])) (by simpa using h)]
    rw [sameL_eq]
    simp only [Bool.and_eq_true, decide_eq_true_eq]
    constructor
    · rintro ⟨⟨h1, h2, h3⟩, h4⟩
      have := (key a.own b.own (fun w hw => hw) h3).1 h4
      cases a; cases b
      simp only [ValD.kind, ValD.num, ValD.own] at *
      subst h1; subst h2; subst this; rfl
    · rintro rfl
      exact ⟨⟨rfl, rfl, rfl⟩, (key a.own a.own (fun w hw => hw) rfl).2 rfl⟩

def pSm : List Nat := [1, 1, 0, 1, 0, 0]
theorem sm_exit {call : CallF} {lf : Nat} {env : Env} {H : Heap} {b1 i : Nat} {s : Value} {l : List ValD} (e2 : env.val 2 = .pointer (some ⟨b1, 0, none⟩)) (e5 : env.val 5 = .int .i64 (i : Int)) (l2 : loadA Try.prog 23 H b1 2 = some s) (vs : rdVals H s = some l) (hi : l.length ≤ i) :
    ∃ env', evCode Try.prog call lf 46 none (cAt Try.f57 pSm) env [] H = some (.exit 0, env', [], H) := by
  have c1 : ¬ (i : Int) < (l.length : Int) := by omega
  have hl := rdVals_len vs 23 Try.underlying23
  generalize hr : evCode Try.prog call lf 46 none (cAt Try.f57 pSm) env [] H = out
  simp [pSm, Try.f57, e2, e5, l2, hl, c1] at hr
  subst hr
  exact ⟨_, rfl⟩
theorem sm_step {call : CallF} {lf : Nat} {env : Env} {H H' : Heap} {b1 b2 i : Nat} {s r s' r' : Value} {l q : List ValD} {v w : ValD} {b : Bool} (e2 : env.val 2 = .pointer (some ⟨b1, 0, none⟩)) (e3 : env.val 3 = .pointer (some ⟨b2, 0, none⟩)) (e5 : env.val 5 = .int .i64 (i : Int)) (l2 : loadA Try.prog 23 H b1 2 = some s) (m2 : loadA Try.prog 23 H b2 2 = some r) (vs : rdVals H s = some l) (vr : rdVals H r = some q) (hv : l[i]? = some v) (hw : q[i]? = some w) (hn : l.length < 1099511627776)
    (lv : loadA Try.prog 25 H (blk s) (offs s + i * 3) = some (.agg #[.int .i64 v.kind, .int .i64 v.num, s'])) (mv : loadA Try.prog 25 H (blk r) (offs r + i * 3) = some (.agg #[.int .i64 w.kind, .int .i64 w.num, r'])) (hc : call (.fn 57 [.agg #[.int .i64 v.kind, .int .i64 v.num, s'], .agg #[.int .i64 w.kind, .int .i64 w.num, r']]) H = some (.ret (.bool b), H')) :
    (b = true → ∃ env', evCode Try.prog call lf 46 none (cAt Try.f57 pSm) env [] H = some (.normal, env', [], H') ∧ env'.val 2 = env.val 2 ∧ env'.val 3 = env.val 3 ∧ env'.val 5 = .int .i64 ((i + 1 : Nat) : Int)) ∧
    (b = false → ∃ env', evCode Try.prog call lf 46 none (cAt Try.f57 pSm) env [] H = some (.ret, env', [], H') ∧ env'.val 4 = .bool false) := by
  have hi := (List.getElem?_eq_some_iff.1 hv).1
  have c1 : (i : Int) < (l.length : Int) := by omega
  have w1 : IntKind.i64.wrap ((i : Int) + 1) = (i : Int) + 1 := wrapI (by omega) (by omega)
  have hl := rdVals_len vs 23 Try.underlying23
  obtain ⟨_, ix, _⟩ := rdVals_at vs hv
  obtain ⟨_, iy, _⟩ := rdVals_at vr hw
  constructor
  · rintro rfl
    generalize hr : evCode Try.prog call lf 46 none (cAt Try.f57 pSm) env [] H = out
    simp [pSm, Try.f57, e2, e3, e5, l2, hl, c1, hi] at hr
    rw [evDraw_tab (tab := [])] at hr
    · simp [e2, e3, e5, l2, m2, ix, iy, lv, mv, callA, hc, w1] at hr
      subst hr
      exact ⟨_, rfl, by simp [e2], by simp [e3], by simp⟩
    · kernel_rfl
    · kernel_rfl
  · rintro rfl
    generalize hr : evCode Try.prog call lf 46 none (cAt Try.f57 pSm) env [] H = out
    simp [pSm, Try.f57, e2, e3, e5, l2, hl, c1, hi] at hr
    rw [evDraw_tab (tab := [])] at hr
    · simp [e2, e3, e5, l2, m2, ix, iy, lv, mv, callA, hc, w1] at hr
      subst hr
      exact ⟨_, rfl, by simp⟩
    · kernel_rfl
    · kernel_rfl
theorem sm_loop {call : CallF} {lf : Nat} {H0 : Heap} {b1 b2 : Nat} {c1 c2 : List Value} {s r : Value} {l q : List ValD} (hw0 : H0.Wf) (g1 : H0.get b1 = some (.cells true 3 c1)) (g2 : H0.get b2 = some (.cells true 3 c2)) (h1 : ∀ K : Heap, K.get b1 = some (.cells true 3 c1) → loadA Try.prog 23 K b1 2 = some s) (h2 : ∀ K : Heap, K.get b2 = some (.cells true 3 c2) → loadA Try.prog 23 K b2 2 = some r) (vs : rdVals H0 s = some l) (vr : rdVals H0 r = some q) (hlq : l.length = q.length) (hn : l.length < 1099511627776)
    (hcall : ∀ v ∈ l, ∀ (w : ValD) (K : Heap) (x y : Value), K.Wf → rdVal K x = some v → rdVal K y = some w → ∃ K', call (.fn 57 [x, y]) K = some (.ret (.bool (sameL v w)), K') ∧ Kept K K' none) :
    ∀ (d i m : Nat) (env : Env) (K : Heap), d < m → l.length = i + d → Kept H0 K none → env.val 2 = .pointer (some ⟨b1, 0, none⟩) → env.val 3 = .pointer (some ⟨b2, 0, none⟩) → env.val 5 = .int .i64 (i : Int) →
    (sameLs (l.drop i) (q.drop i) = true → ∃ env' K', evLoop Try.prog call lf 46 none (cAt Try.f57 pSm) m env [] K = some (.exit 0, env', [], K') ∧ Kept H0 K' none) ∧
    (sameLs (l.drop i) (q.drop i) = false → ∃ env' K', evLoop Try.prog call lf 46 none (cAt Try.f57 pSm) m env [] K = some (.ret, env', [], K') ∧ env'.val 4 = .bool false ∧ Kept H0 K' none)
  | d, i, 0, env, K, hm, _, _, _, _, _ => by omega
  | 0, i, m + 1, env, K, hm, hd, hk, e2, e3, e5 => by
    obtain ⟨env', he⟩ := sm_exit (call := call) (lf := lf) e2 e5 (h1 K (hk.of_get hw0 g1 (by simp))) (rdVals_ext (hk.ext hw0) vs) (by omega)
    simp only [evLoop_succ, he]
    rw [List.drop_eq_nil_of_le (by omega)]
    exact ⟨fun _ => ⟨env', K, rfl, hk⟩, (fun h => by cases h)⟩
  | d + 1, i, m + 1, env, K, hm, hd, hk, e2, e3, e5 => by
    have hx := List.getElem?_eq_getElem (l := l) (i := i) (by omega)
    have hy := List.getElem?_eq_getElem (l := q) (i := i) (by omega)
    have hdr := List.drop_eq_getElem_cons (l := l) (i := i) (by omega)
    have hdq := List.drop_eq_getElem_cons (l := q) (i := i) (by omega)
    have l2 := h1 K (hk.of_get hw0 g1 (by simp))
    have m2 := h2 K (hk.of_get hw0 g2 (by simp))
    have vsK := rdVals_ext (hk.ext hw0) vs
    have vrK := rdVals_ext (hk.ext hw0) vr
    obtain ⟨s', _, _, lv, hva, _⟩ := rdVals_at vsK hx
    obtain ⟨r', _, _, mv, hvb, _⟩ := rdVals_at vrK hy
    obtain ⟨K', hc, hk'⟩ := hcall _ (List.getElem_mem (l := l) (n := i) (by omega)) _ K _ _ hk.wf (rdVal_of hva) (rdVal_of hvb)
    obtain ⟨q1, q2⟩ := sm_step (lf := lf) e2 e3 e5 l2 m2 vsK vrK hx hy hn lv mv hc
    rw [hdr, hdq, sameLs]
    cases h : sameL (l[i]'(by omega)) (q[i]'(by omega)) with
    | true =>
      obtain ⟨env', he, u2, u3, u5⟩ := q1 h
      have := sm_loop (lf := lf) hw0 g1 g2 h1 h2 vs vr hlq hn hcall d (i + 1) m env' K' (by omega) (by omega) (hk.trans hk') (u2.trans e2) (u3.trans e3) u5
      simp only [evLoop_succ, he, Bool.true_and]
      exact this
    | false =>
      obtain ⟨env', he, u4⟩ := q2 h
      simp only [evLoop_succ, he, Bool.false_and]
      exact ⟨(fun h => by cases h), fun _ => ⟨env', K', rfl, u4, hk.trans hk'⟩⟩

theorem same_run {lf : Nat} : ∀ (k : Nat) (H : Heap) (x y : Value) (a b : ValD), a.size ≤ k → a.size < lf → lf ≤ 1000000 → H.Wf → rdVal H x = some a → rdVal H y = some b → ∃ H', evWith Try.prog lf [] k (.fn 57 [x, y]) H = some (.ret (.bool (sameL a b)), H') ∧ Kept H H' none
  | 0, H, x, y, a, b, hd, _, _, _, _, _ => by have := ValD.size_pos a; omega
  | k + 1, H, x, y, a, b, hd, hlf, hlf2, hw, hx, hy => by
    rw [with_nil]
    obtain ⟨s0, hs0, hvs0⟩ := rdVals_own hx
    obtain ⟨r0, hr0, hvr0⟩ := rdVals_own hy
    obtain ⟨s, xs, rfl, h1, h2, h3, hva, sc, os, _⟩ := rdVal_cells hx
    obtain ⟨r, ys, rfl, g1, g2, g3, hvb, rc, or, _⟩ := rdVal_cells hy
    have hss : s = s0 := by simpa using hs0
    subst hss
    have hrr : r = r0 := by simpa using hr0
    subst hrr
    have hlen := ValD.length_sizes a.own
    have hse := ValD.size_eq a
    have hcall : ∀ v ∈ a.own, ∀ (w : ValD) (K : Heap) (x y : Value), K.Wf → rdVal K x = some v → rdVal K y = some w → ∃ K', evWith Try.prog lf [] k (.fn 57 [x, y]) K = some (.ret (.bool (sameL v w)), K') ∧ Kept K K' none := by
      intro v hm w K x y hwK hx hy
      have := ValD.mem_size hm
      exact same_run k K x y v w (by omega) (by omega) hlf2 hwK hx hy
    generalize evWith Try.prog lf [] k = call at hcall
    have k1 := ((Kept.refl hw none).push (.cells true 3 [.int .i64 a.kind, .int .i64 a.num, s])).push (.cells true 3 [.int .i64 b.kind, .int .i64 b.num, r])
    have q1 : ((H.push (.cells true 3 [.int .i64 a.kind, .int .i64 a.num, s])).push (.cells true 3 [.int .i64 b.kind, .int .i64 b.num, r])).get H.next = some (.cells true 3 [.int .i64 a.kind, .int .i64 a.num, s]) := by rw [get_push_ne (by simp)]; exact get_push_self _ _
    have q2 : ((H.push (.cells true 3 [.int .i64 a.kind, .int .i64 a.num, s])).push (.cells true 3 [.int .i64 b.kind, .int .i64 b.num, r])).get (H.next + 1) = some (.cells true 3 [.int .i64 b.kind, .int .i64 b.num, r]) := get_push_self (H.push _) _
    generalize hH1 : (H.push (.cells true 3 [.int .i64 a.kind, .int .i64 a.num, s])).push (.cells true 3 [.int .i64 b.kind, .int .i64 b.num, r]) = H1 at *
    have vs := rdVals_ext (k1.ext hw) hvs0
    have vr := rdVals_ext (k1.ext hw) hvr0
    have la0 : loadA Try.prog 22 H1 H.next 0 = some (.int .i64 a.kind) := by simp [loadA, q1]
    have la1 : loadA Try.prog 2 H1 H.next 1 = some (.int .i64 a.num) := by simp [loadA, q1]
    have la2 : loadA Try.prog 23 H1 H.next 2 = some s := by simp [loadA, q1, sc]
    have lb0 : loadA Try.prog 22 H1 (H.next + 1) 0 = some (.int .i64 b.kind) := by simp [loadA, q2]
    have lb1 : loadA Try.prog 2 H1 (H.next + 1) 1 = some (.int .i64 b.num) := by simp [loadA, q2]
    have lb2 : loadA Try.prog 23 H1 (H.next + 1) 2 = some r := by simp [loadA, q2, rc]
    have hla := rdVals_len vs 23 Try.underlying23
    have hlb := rdVals_len vr 23 Try.underlying23
    rw [sameL_eq]
    generalize hE : evFn Try.prog call lf 57 [.agg #[.int .i64 a.kind, .int .i64 a.num, s], .agg #[.int .i64 b.kind, .int .i64 b.num, r]] H = out
    have hr := hE
    by_cases hk : a.kind = b.kind
    · by_cases hnm : a.num = b.num
      · by_cases hl : a.own.length = b.own.length
        · rw [decide_eq_true hk, decide_eq_true hnm, decide_eq_true hl]
          rw [← hk] at lb0
          rw [← hnm] at lb1
          rw [← hl] at hlb
          simp [undef, Try.f57, eqA, Try.underlying22, Try.underlying2, os, or, hH1, la0, la1, la2, lb0, lb1, lb2, hla, hlb] at hr
          generalize hL0 : evLoop _ _ _ _ _ _ _ _ _ _ = L at hr
          have aux : ∀ env, evLoop Try.prog call lf 46 none (cAt Try.f57 pSm) lf env [] H1 = L → env.val 2 = .pointer (some ⟨H.next, 0, none⟩) → env.val 3 = .pointer (some ⟨H.next + 1, 0, none⟩) → env.val 5 = .int .i64 (0 : Nat) →
              (sameLs a.own b.own = true → ∃ env' K', L = some (.exit 0, env', [], K') ∧ Kept H1 K' none) ∧ (sameLs a.own b.own = false → ∃ env' K', L = some (.ret, env', [], K') ∧ env'.val 4 = .bool false ∧ Kept H1 K' none) := by
            intro env hL e2 e3 e5
            have := sm_loop (lf := lf) k1.wf q1 q2 (fun K hK => by simp [loadA, hK, sc]) (fun K hK => by simp [loadA, hK, rc]) vs vr hl (by omega) hcall a.own.length 0 lf env H1 (by omega) (by omega) (Kept.refl k1.wf none) e2 e3 e5
            rw [hL, List.drop_zero, List.drop_zero] at this
            exact this
          obtain ⟨r1, r2⟩ := aux _ hL0 (by simp) (by simp) (by simp)
          cases hss : sameLs a.own b.own with
          | true =>
            obtain ⟨env', K', rfl, kk⟩ := r1 hss
            exact ⟨K', by simpa using hr.symm, k1.trans kk⟩
          | false =>
            obtain ⟨env', K', rfl, u4, kk⟩ := r2 hss
            exact ⟨K', by simpa [u4] using hr.symm, k1.trans kk⟩
        · have hl' : ¬ ((a.own.length : Int) = (b.own.length : Int)) := by omega
          have hlb' : ((a.own.length : Int) != (b.own.length : Int)) = true := by simp only [bne_iff_ne, ne_eq]; exact hl'
          rw [decide_eq_false hl]
          rw [← hk] at lb0
          rw [← hnm] at lb1
          simp [undef, Try.f57, eqA, Try.underlying22, Try.underlying2, os, or, hH1, la0, la1, la2, lb0, lb1, lb2, hla, hlb, hl, hl', hlb', beqF] at hr
          exact ⟨H1, by simpa using hr.symm, k1⟩
      · rw [decide_eq_false hnm]
        rw [← hk] at lb0
        simp [undef, Try.f57, eqA, Try.underlying22, Try.underlying2, os, or, hH1, la0, la1, la2, lb0, lb1, lb2, hnm, beqF] at hr
        exact ⟨H1, by simpa using hr.symm, k1⟩
    · rw [decide_eq_false hk]
      simp [undef, Try.f57, eqA, Try.underlying22, Try.underlying2, os, or, hH1, la0, la1, la2, lb0, lb1, lb2, hk, beqF] at hr
      exact ⟨H1, by simpa using hr.symm, k1⟩

def refSameL (a b : ValD) : Bool := decide (a.size ≤ 256) && (decide (b.size ≤ 256) && sameL a b)
noncomputable def call20 : CallF := orC (callOf [refSizeC]) (evWith Try.prog 300 [] 256)
theorem call20_ok : CallOk Try.prog call20 := orC_ok (callOf_ok _) (evWith_ok _ _ _)
noncomputable def refSameC : Contract Try.prog := Contract.plain 20
  (fun args H => match args with
    | [v, w] => match rdVal H v, rdVal H w with
      | some a, some b => if a.size ≤ 1073741824 ∧ b.size ≤ 1073741824 then some (.ret (.bool (refSameL a b))) else none
      | _, _ => none
    | _ => none) (by
    intro args H res hw hr
    split at hr
    · rename_i v w
      split at hr
      · rename_i a b ha hb
        split at hr
        · rename_i hbb
          simp only [Option.some.injEq] at hr
          subst hr
          obtain ⟨s, xs, rfl, h1, h2, h3, hva, sc, os, _⟩ := rdVal_cells ha
          obtain ⟨r, ys, rfl, g1, g2, g3, hvb, rc, or, _⟩ := rdVal_cells hb
          have k1 := ((Kept.refl hw none).push (.cells true 3 [.int .i64 a.kind, .int .i64 a.num, s])).push (.cells true 3 [.int .i64 b.kind, .int .i64 b.num, r])
          have q1 : ((H.push (.cells true 3 [.int .i64 a.kind, .int .i64 a.num, s])).push (.cells true 3 [.int .i64 b.kind, .int .i64 b.num, r])).get H.next = some (.cells true 3 [.int .i64 a.kind, .int .i64 a.num, s]) := by rw [get_push_ne (by simp)]; exact get_push_self _ _
          have q2 : ((H.push (.cells true 3 [.int .i64 a.kind, .int .i64 a.num, s])).push (.cells true 3 [.int .i64 b.kind, .int .i64 b.num, r])).get (H.next + 1) = some (.cells true 3 [.int .i64 b.kind, .int .i64 b.num, r]) := get_push_self (H.push _) _
          have ha1 := rdVal_ext (k1.ext hw) ha
          have hb1 := rdVal_ext (k1.ext hw) hb
          generalize hH : (H.push (.cells true 3 [.int .i64 a.kind, .int .i64 a.num, s])).push (.cells true 3 [.int .i64 b.kind, .int .i64 b.num, r]) = H1 at *
          have la : loadA Try.prog 25 H1 H.next 0 = some (.agg #[.int .i64 a.kind, .int .i64 a.num, s]) := by simp [loadA, q1]
          have lb : loadA Try.prog 25 H1 (H.next + 1) 0 = some (.agg #[.int .i64 b.kind, .int .i64 b.num, r]) := by simp [loadA, q2]
          have c14a : call20 (.fn 14 [.agg #[.int .i64 a.kind, .int .i64 a.num, s]]) H1 = some (.ret (.int .i64 (refSize a)), H1) := orC_hit (refSize_hit ha1 hbb.1)
          have c14b : call20 (.fn 14 [.agg #[.int .i64 b.kind, .int .i64 b.num, r]]) H1 = some (.ret (.int .i64 (refSize b)), H1) := orC_hit (refSize_hit hb1 hbb.2)
          unfold refSameL
          by_cases hla : a.size ≤ 256
          · have hra : refSize a ≤ 256 := by unfold refSize; omega
            by_cases hlb : b.size ≤ 256
            · have hrb : refSize b ≤ 256 := by unfold refSize; omega
              obtain ⟨H', c57, k2⟩ := same_run (lf := 300) 256 H1 _ _ a b hla (by omega) (by omega) k1.wf ha1 hb1
              have c57' : call20 (.fn 57 [.agg #[.int .i64 a.kind, .int .i64 a.num, s], .agg #[.int .i64 b.kind, .int .i64 b.num, r]]) H1 = some (.ret (.bool (sameL a b)), H') := (orC_miss (by rw [callOf_miss (by decide)]; rfl)).trans c57
              refine ⟨rfl, call20, H', call20_ok, 0, ?_, (k1.trans k2).ext hw⟩
              generalize call20 = call at c14a c14b c57'
              generalize refSize a = na at *
              generalize refSize b = nb at *
              simp [Try.f20, os, or, hH, la, lb, callA, c14a, c14b, hra, hrb, c57', hla, hlb]
            · have hrb : ¬ refSize b ≤ 256 := by unfold refSize; omega
              refine ⟨rfl, call20, H1, call20_ok, 0, ?_, k1.ext hw⟩
              generalize call20 = call at c14a c14b
              generalize refSize a = na at *
              generalize refSize b = nb at *
              simp [undef, Try.f20, os, or, hH, la, lb, callA, c14a, c14b, hra, hrb, hla, hlb]
          · have hra : ¬ refSize a ≤ 256 := by unfold refSize; omega
            refine ⟨rfl, call20, H1, call20_ok, 0, ?_, k1.ext hw⟩
            generalize call20 = call at c14a c14b
            generalize refSize a = na at *
            simp [undef, Try.f20, os, or, hH, la, lb, callA, c14a, c14b, hra, hla]
        · cases hr
      · cases hr
    · cases hr)
theorem refSame_hit {cs : List (Contract Try.prog)} {H : Heap} {v w : Value} {a b : ValD} (h : rdVal H v = some a) (h2 : rdVal H w = some b) (hb : a.size ≤ 1073741824) (hb2 : b.size ≤ 1073741824) : callOf (refSameC :: cs) (.fn 20 [v, w]) H = some (.ret (.bool (refSameL a b)), H) :=
  callOf_hit rfl (by simp [refSameC, Contract.plain, h, h2, hb, hb2])
end Go.Proofs.Ytgopamojnoefiaa

namespace Go.Proofs.Ytgopamojnoefiaa
open Go Go.Abs
set_option maxRecDepth 100000
set_option linter.unusedSimpArgs false
set_option linter.unusedVariables false

/-! ### Make (18) -/
/-- A call of one function, and of no other one. -/
noncomputable def onlyC (f : FuncId) (c : CallF) : CallF := fun job H => match job with
  | .fn g args => if g = f then c (.fn g args) H else none
  | .round _ _ => none
theorem onlyC_ok {f : FuncId} {c : CallF} (h : CallOk Try.prog c) : CallOk Try.prog (onlyC f c) := by
  intro job H res H' hr
  cases job with
  | fn g args =>
    unfold onlyC at hr
    dsimp only at hr
    split at hr
    · exact h _ H res H' hr
    · cases hr
  | round l args => cases hr
theorem onlyC_hit {f : FuncId} {c : CallF} {args : List Value} {H : Heap} : onlyC f c (.fn f args) H = c (.fn f args) H := by
  unfold onlyC; dsimp only; rw [if_pos rfl]
theorem onlyC_miss {f g : FuncId} {c : CallF} {args : List Value} {H : Heap} (h : g ≠ f) : onlyC f c (.fn g args) H = none := by
  unfold onlyC; dsimp only; rw [if_neg h]

noncomputable def in49 : CallF := ev1 Try.prog (callR 1000) 1000
theorem in49_ok : CallOk Try.prog in49 := ev1_sound (callR_ok 1000)
noncomputable def inCp : CallF := evWith Try.prog 1000 [] 257
theorem inCp_ok : CallOk Try.prog inCp := evWith_ok _ _ _
noncomputable def callM : CallF := orC (onlyC 49 in49) inCp
theorem callM_ok : CallOk Try.prog callM := orC_ok (onlyC_ok in49_ok) inCp_ok
theorem callM_49 {args : List Value} {H : Heap} {r : CRes × Heap} (h : evFn Try.prog (callR 1000) 1000 49 args H = some r) : callM (.fn 49 args) H = some r :=
  orC_hit (onlyC_hit.trans h)
theorem callM_cp {f : FuncId} {args : List Value} {H : Heap} (h : f ≠ 49) : callM (.fn f args) H = inCp (.fn f args) H := orC_miss (onlyC_miss h)
theorem zero_val {H : Heap} {b : Nat} {cs : List Value} {call : CallF} {lf : Nat} (h : H.get b = some (.cells true 3 cs)) (hl : cs.length = 3) : evFn Try.prog call lf 55 [.pointer (some ⟨b, 0, none⟩)] H = some (.ret (.tuple #[]), H.set b (.cells true 3 [.int .i64 0, .int .i64 0, .slice none 0 0])) := by
  have bt : Try.prog.built 25 [] = some #[.int .i64 0, .int .i64 0, .slice none 0 0] := by kernel_rfl
  have st : storeA Try.prog 25 H b 0 (.agg #[.int .i64 0, .int .i64 0, .slice none 0 0]) = some (H.set b (.cells true 3 [.int .i64 0, .int .i64 0, .slice none 0 0])) := by
    match cs, hl with
    | [a, b', c], _ => simp [storeA, h, putL]
  generalize hr : evFn Try.prog call lf 55 [.pointer (some ⟨b, 0, none⟩)] H = out
  simp [Try.f55, bt, st] at hr
  exact hr.symm

def makeL (d : ValD) : ValD × Int := if rightL d = true then (d, 0) else (.mk 0 0 [], 40)
theorem mk_results {env : Env} {H : Heap} {a b : Nat} {x k n : Int} {s : Value} (h6 : env.val 6 = .pointer (some ⟨b, 0, none⟩)) (h7 : env.val 7 = .pointer (some ⟨a, 0, none⟩)) (hb : H.get b = some (.cells true 3 [.int .i64 k, .int .i64 n, s])) (ha : H.get a = some (.cells true 1 [.int .i64 x])) : resultsA Try.prog Try.f18 env H = some (.tuple #[.agg #[.int .i64 k, .int .i64 n, s], .int .i64 x]) := by
  have l1 : loadA Try.prog 28 H a 0 = some (.int .i64 x) := by simp [loadA, ha]
  have l2 : loadA Try.prog 25 H b 0 = some (.agg #[.int .i64 k, .int .i64 n, s]) := by simp [loadA, hb]
  simp [Try.f18, h6, h7, l1, l2]

theorem make_run {lf : Nat} {H : Heap} {s : Value} {d : ValD} (hw : H.Wf) (hv : rdVals H s = some d.own) (hsz : d.size ≤ 1073741824) :
    ∃ s' H', evFn Try.prog callM lf 18 [.int .i64 d.kind, .int .i64 d.num, s] H = some (.ret (.tuple #[.agg #[.int .i64 (makeL d).1.kind, .int .i64 (makeL d).1.num, s'], .int .i64 (makeL d).2]), H') ∧ Kept H H' none ∧ VOwn H.next H' (makeL d).1 [.int .i64 (makeL d).1.kind, .int .i64 (makeL d).1.num, s'] := by
  obtain ⟨xs, h1, h2, h3, hq⟩ := rdVals_inv hv
  obtain ⟨sc, os, oe, _⟩ := rdS_one h1
  have hva : VAt H d [.int .i64 d.kind, .int .i64 d.num, s] := .of hq h1 h2 h3
  have hcp : ∀ (K : Heap) (x : Value), K.Wf → d.size ≤ 256 → rdVal K x = some d → ∃ s' K', callM (.fn 56 [x]) K = some (.ret (.agg #[.int .i64 d.kind, .int .i64 d.num, s']), K') ∧ Kept K K' none ∧ VOwn K.next K' d [.int .i64 d.kind, .int .i64 d.num, s'] := by
    intro K x hwK hs hx
    rw [callM_cp (by decide)]
    exact copied_run 256 K x d hs (by omega) (by omega) hwK hx
  have h55 : ∀ (K : Heap) (b : Nat) (cs : List Value), K.get b = some (.cells true 3 cs) → cs.length = 3 → callM (.fn 55 [.pointer (some ⟨b, 0, none⟩)]) K = some (.ret (.tuple #[]), K.set b (.cells true 3 [.int .i64 0, .int .i64 0, .slice none 0 0])) := by
    intro K b cs hK hl
    rw [callM_cp (by decide)]
    exact with_nil.trans (zero_val hK hl)
  have h49 : ∀ {args : List Value} {K : Heap} {r : CRes × Heap}, evFn Try.prog (callR 1000) 1000 49 args K = some r → callM (.fn 49 args) K = some r := fun h => callM_49 h
  generalize callM = call at hcp h55 h49
  have r0 : ∃ e, evCode Try.prog call lf 18 none (cAt Try.f18 [0]) (envOf 0 [.int .i64 d.kind, .int .i64 d.num, s] .nil) [] H = some (.normal, e, [], (H.push (.cells true 3 [.int .i64 0, .int .i64 0, .slice none 0 0])).push (.cells true 1 [.int .i64 0])) ∧ e.val 0 = .int .i64 d.kind ∧ e.val 1 = .int .i64 d.num ∧ e.val 2 = s ∧ e.val 6 = .pointer (some ⟨H.next, 0, none⟩) ∧ e.val 7 = .pointer (some ⟨H.next + 1, 0, none⟩) := by
    generalize hr : evCode Try.prog call lf 18 none (cAt Try.f18 [0]) (envOf 0 [.int .i64 d.kind, .int .i64 d.num, s] .nil) [] H = out
    simp [Try.f18, os] at hr
    subst hr
    exact ⟨_, rfl, by simp, by simp, by simp, by simp, by simp⟩
  obtain ⟨e, r0, v0, v1, v2, v6, v7⟩ := r0
  have k1 := ((Kept.refl hw none).push (.cells true 3 [.int .i64 0, .int .i64 0, .slice none 0 0])).push (.cells true 1 [.int .i64 0])
  have g1 : ((H.push (.cells true 3 [.int .i64 0, .int .i64 0, .slice none 0 0])).push (.cells true 1 [.int .i64 0])).get H.next = some (.cells true 3 [.int .i64 0, .int .i64 0, .slice none 0 0]) := by rw [get_push_ne (by simp)]; exact get_push_self _ _
  have g2 : ((H.push (.cells true 3 [.int .i64 0, .int .i64 0, .slice none 0 0])).push (.cells true 1 [.int .i64 0])).get (H.next + 1) = some (.cells true 1 [.int .i64 0]) := get_push_self (H.push _) _
  have n1 : ((H.push (.cells true 3 [.int .i64 0, .int .i64 0, .slice none 0 0])).push (.cells true 1 [.int .i64 0])).next = H.next + 2 := rfl
  generalize (H.push (.cells true 3 [.int .i64 0, .int .i64 0, .slice none 0 0])).push (.cells true 1 [.int .i64 0]) = H1 at *
  have r1 : ∃ e', evCode Try.prog call lf 18 none (cAt Try.f18 [1, 0]) e [] H1 = some (.normal, e', [.fn 47 [.pointer (some ⟨H.next + 1, 0, none⟩), .func (.func 55) #[] #[.pointer (some ⟨H.next, 0, none⟩)]]], H1) ∧ e'.val 0 = .int .i64 d.kind ∧ e'.val 1 = .int .i64 d.num ∧ e'.val 2 = s ∧ e'.val 6 = .pointer (some ⟨H.next, 0, none⟩) ∧ e'.val 7 = .pointer (some ⟨H.next + 1, 0, none⟩) := by
    generalize hr : evCode Try.prog call lf 18 none (cAt Try.f18 [1, 0]) e [] H1 = out
    simp [Try.f18, v6, v7] at hr
    subst hr
    exact ⟨_, rfl, by simp [v0], by simp [v1], by simp [v2], by simp [v6], by simp [v7]⟩
  obtain ⟨e1, r1, w0, w1, w2, w6, w7⟩ := r1
  have st1 : storeA Try.prog 25 H1 H.next 0 (.agg #[.int .i64 d.kind, .int .i64 d.num, s]) = some (H1.set H.next (.cells true 3 [.int .i64 d.kind, .int .i64 d.num, s])) := by simp [storeA, g1, os, putL]
  have bt : Try.prog.built 25 [(0, .int .i64 d.kind), (1, .int .i64 d.num), (2, s)] = some #[.int .i64 d.kind, .int .i64 d.num, s] := by
    rcases rdS_form h1 with ⟨rfl, _⟩ | ⟨a, n, c, rfl⟩ <;> kernel_rfl
  have hl1 := k1.wf.lt g1
  have k2 := k1.set (Nat.le_refl _) hl1 (.cells true 3 [.int .i64 d.kind, .int .i64 d.num, s])
  have g12 : (H1.set H.next (.cells true 3 [.int .i64 d.kind, .int .i64 d.num, s])).get H.next = some (.cells true 3 [.int .i64 d.kind, .int .i64 d.num, s]) := get_set_self _ _ _
  have g22 : (H1.set H.next (.cells true 3 [.int .i64 d.kind, .int .i64 d.num, s])).get (H.next + 1) = some (.cells true 1 [.int .i64 0]) := by rw [get_set_ne (by omega)]; exact g2
  generalize hH2 : H1.set H.next (.cells true 3 [.int .i64 d.kind, .int .i64 d.num, s]) = H2 at *
  have ld : loadA Try.prog 25 H2 H.next 0 = some (.agg #[.int .i64 d.kind, .int .i64 d.num, s]) := by simp [loadA, g12]
  have bs := val_build (H := H2) (k := d.kind) (n := d.num) (s := s)
  have k3 := (Kept.refl k2.wf none).push (.cells true 3 [.int .i64 d.kind, .int .i64 d.num, s])
  have hrow := val_row k2.wf (hva.ext (k2.ext hw))
  obtain ⟨q1, q2⟩ := right_run (lf := 1000) k3.wf hrow (by simp) (Nat.le_refl _) (by intro x hx; simp at hx; subst hx; exact hsz)
  simp only [List.all_cons, List.all_nil, Bool.and_true] at q1 q2
  have hstart : ∀ out, evCode Try.prog call lf 18 none (cAt Try.f18 [1, 1]) e1 [.fn 47 [.pointer (some ⟨H.next + 1, 0, none⟩), .func (.func 55) #[] #[.pointer (some ⟨H.next, 0, none⟩)]]] H1 = out → evFn Try.prog call lf 18 [.int .i64 d.kind, .int .i64 d.num, s] H = fnEnd Try.prog call lf Try.f18 out := by
    intro out h
    rw [evFn_at Try.func18 body18 (by simp), Try.ntmps18, ev_then (c := cAt Try.f18 []) (b := cAt Try.f18 [1]) rfl r0, ev_then (c := cAt Try.f18 [1]) (b := cAt Try.f18 [1, 1]) rfl r1, h]
  cases hR : rightL d with
  | true =>
    have hM : makeL d = (d, 0) := by simp [makeL, hR]
    rw [hM]
    have hs256 : d.size ≤ 256 := by rw [rightL_eq] at hR; simp at hR; exact hR.1
    obtain ⟨H3, c49, k4⟩ := q1 hR
    have c49' := h49 c49
    have g13 := (k3.trans k4).of_get k2.wf g12 (by simp)
    have g23 := (k3.trans k4).of_get k2.wf g22 (by simp)
    have ld3 : loadA Try.prog 25 H3 H.next 0 = some (.agg #[.int .i64 d.kind, .int .i64 d.num, s]) := by simp [loadA, g13]
    obtain ⟨s', H4, c56, k5, hown⟩ := hcp H3 _ k4.wf hs256 (rdVal_of (hva.ext (((k2.trans k3).trans k4).ext hw)))
    obtain ⟨s2, xs2, e2, hr2, _⟩ := hown.inv
    simp only [List.cons.injEq, true_and, and_true] at e2
    subst e2
    obtain ⟨sc', os', _⟩ := hr2.one
    have g14 := k5.of_get k4.wf g13 (by simp)
    have g24 := k5.of_get k4.wf g23 (by simp)
    have st4 : storeA Try.prog 25 H4 H.next 0 (.agg #[.int .i64 d.kind, .int .i64 d.num, s']) = some (H4.set H.next (.cells true 3 [.int .i64 d.kind, .int .i64 d.num, s'])) := by simp [storeA, g14, os', putL]
    have g25 : (H4.set H.next (.cells true 3 [.int .i64 d.kind, .int .i64 d.num, s'])).get (H.next + 1) = some (.cells true 1 [.int .i64 0]) := by rw [get_set_ne (by omega)]; exact g24
    have st5 : storeA Try.prog 28 (H4.set H.next (.cells true 3 [.int .i64 d.kind, .int .i64 d.num, s'])) (H.next + 1) 0 (.int .i64 0) = some ((H4.set H.next (.cells true 3 [.int .i64 d.kind, .int .i64 d.num, s'])).set (H.next + 1) (.cells true 1 [.int .i64 0])) := by simp [storeA, g25, putL]
    have r2 : ∃ e', evCode Try.prog call lf 18 none (cAt Try.f18 [1, 1]) e1 [.fn 47 [.pointer (some ⟨H.next + 1, 0, none⟩), .func (.func 55) #[] #[.pointer (some ⟨H.next, 0, none⟩)]]] H1 = some (.ret, e', [.fn 47 [.pointer (some ⟨H.next + 1, 0, none⟩), .func (.func 55) #[] #[.pointer (some ⟨H.next, 0, none⟩)]]], (H4.set H.next (.cells true 3 [.int .i64 d.kind, .int .i64 d.num, s'])).set (H.next + 1) (.cells true 1 [.int .i64 0])) ∧ e'.val 6 = .pointer (some ⟨H.next, 0, none⟩) ∧ e'.val 7 = .pointer (some ⟨H.next + 1, 0, none⟩) := by
      generalize hr : evCode Try.prog call lf 18 none (cAt Try.f18 [1, 1]) e1 [.fn 47 [.pointer (some ⟨H.next + 1, 0, none⟩), .func (.func 55) #[] #[.pointer (some ⟨H.next, 0, none⟩)]]] H1 = out
      simp [Try.f18, w0, w1, w2, w6, w7, bt, st1, ld, bs, callA, c49', ld3, c56, st4, st5] at hr
      subst hr
      exact ⟨_, rfl, by simp [w6], by simp [w7]⟩
    obtain ⟨e', r2, z6, z7⟩ := r2
    have hl4 := k5.wf.lt g14
    have hl5 := k5.wf.lt g24
    have kk := (((k2.trans k3).trans k4).trans k5)
    refine ⟨s', (H4.set H.next (.cells true 3 [.int .i64 d.kind, .int .i64 d.num, s'])).set (H.next + 1) (.cells true 1 [.int .i64 0]), (hstart _ r2).trans ?_, (kk.set (Nat.le_refl _) hl4 _).set (by omega) (by simpa using hl5) _, ?_⟩
    · simp only [fnEnd, evLeave]
      rw [show (#[.pointer (some ⟨H.next, 0, none⟩)] : Array Value) = ([.pointer (some ⟨H.next, 0, none⟩)] : List Value).toArray from rfl, caught_ret]
      simp only [PM.settle, evLeave]
      rw [mk_results z6 z7 (by rw [get_set_ne (by omega)]; exact get_set_self _ _ _) (get_set_self _ _ _)]
      rfl
    · have m1 := (k3.trans k4).le
      have m2 : H2.next = H1.next := by rw [← hH2]; simp
      exact (hown.from ((SameFrom.set (by omega) _).trans (SameFrom.set (by omega) _))).low (by omega)
  | false =>
    have hM : makeL d = (.mk 0 0 [], 40) := by simp [makeL, hR]
    rw [hM]
    obtain ⟨H3, c49, k4⟩ := q2 hR
    have c49' := h49 c49
    have g13 := (k3.trans k4).of_get k2.wf g12 (by simp)
    have g23 := (k3.trans k4).of_get k2.wf g22 (by simp)
    have r2 : ∃ e', evCode Try.prog call lf 18 none (cAt Try.f18 [1, 1]) e1 [.fn 47 [.pointer (some ⟨H.next + 1, 0, none⟩), .func (.func 55) #[] #[.pointer (some ⟨H.next, 0, none⟩)]]] H1 = some (.panic (.iface 28 (.int .i64 40)), e', [.fn 47 [.pointer (some ⟨H.next + 1, 0, none⟩), .func (.func 55) #[] #[.pointer (some ⟨H.next, 0, none⟩)]]], H3) ∧ e'.val 6 = .pointer (some ⟨H.next, 0, none⟩) ∧ e'.val 7 = .pointer (some ⟨H.next + 1, 0, none⟩) := by
      generalize hr : evCode Try.prog call lf 18 none (cAt Try.f18 [1, 1]) e1 [.fn 47 [.pointer (some ⟨H.next + 1, 0, none⟩), .func (.func 55) #[] #[.pointer (some ⟨H.next, 0, none⟩)]]] H1 = out
      simp [Try.f18, w0, w1, w2, w6, w7, bt, st1, ld, bs, callA, c49'] at hr
      subst hr
      exact ⟨_, rfl, by simp [w6], by simp [w7]⟩
    obtain ⟨e', r2, z6, z7⟩ := r2
    have hl4 := k4.wf.lt g13
    have hl5 := k4.wf.lt g23
    have kk := ((k2.trans k3).trans k4)
    have hcp := caught_pan (call := call) (lf := lf) (g := 55) (cap := [.pointer (some ⟨H.next, 0, none⟩)]) (i := 40) (a := H.next + 1) (x := .int .i64 0) bodied55 (h55 H3 H.next _ g13 rfl) (by rw [get_set_ne (by omega)]; exact g23)
    refine ⟨.slice none 0 0, _, (hstart _ r2).trans ?_, (kk.set (Nat.le_refl _) hl4 (.cells true 3 [.int .i64 0, .int .i64 0, .slice none 0 0])).set (c := H.next + 1) (by omega) (by simpa using hl5) (.cells true 1 [.int .i64 40]), .of (.inl ⟨rfl, rfl⟩) rfl (fun i x v a => by simp at a)⟩
    simp only [fnEnd, evLeave]
    rw [show (#[.pointer (some ⟨H.next, 0, none⟩)] : Array Value) = ([.pointer (some ⟨H.next, 0, none⟩)] : List Value).toArray from rfl, hcp]
    simp only [PM.settle, evLeave]
    rw [mk_results z6 z7 (by rw [get_set_ne (by omega)]; exact get_set_self _ _ _) (get_set_self _ _ _)]
    rfl
end Go.Proofs.Ytgopamojnoefiaa

namespace Go.Proofs.Ytgopamojnoefiaa
open Go Go.Abs
set_option maxRecDepth 100000
set_option linter.unusedSimpArgs false
set_option linter.unusedVariables false

/-! ### The reference's Make (19) -/
theorem built25 {k n : Int} {H : Heap} {s : Value} {xs : List (List Value)} (h : rdS H 3 s = some xs) : Try.prog.built 25 [(0, .int .i64 k), (1, .int .i64 n), (2, s)] = some #[.int .i64 k, .int .i64 n, s] := by
  rcases rdS_form h with ⟨rfl, _⟩ | ⟨a, n, c, rfl⟩ <;> kernel_rfl
theorem built25z : Try.prog.built 25 [] = some #[.int .i64 0, .int .i64 0, .slice none 0 0] := by kernel_rfl
theorem vals_all {H : Heap} {s : Value} {xs : List (List Value)} {l : List ValD} (h : VsAt H s xs l) : xs.flatten.all oneC = true := VsC.all (H := H) (l := l) ⟨h.2.1, h.2.2.1⟩
theorem rdS_as {H K : Heap} {es : Nat} {v : Value} (h : ∀ b, blockOf v = some b → K.get b = H.get b) : rdS K es v = rdS H es v := by
  unfold rdS
  split
  · rfl
  · rename_i b off n c
    rw [h b rfl]
  · rfl
  · rfl
theorem sliceOk_as {H K : Heap} {es : Nat} {v : Value} (h : ∀ b, blockOf v = some b → K.get b = H.get b) (ho : sliceOk H es v) : sliceOk K es v := by
  unfold sliceOk at ho ⊢
  split
  · rename_i a n c
    rw [h a.block rfl]; exact ho
  · trivial
/-- A row of values, behind a new row without any. -/
theorem app_new {H : Heap} {s : Value} {xs : List (List Value)} {l : List ValD} (hw : H.Wf) (hvs : VsAt H s xs l) (hn : l.length ≤ 1073741824) :
    ∃ v' H', builtinA Try.prog .append #[23, 23] [.slice (some ⟨H.next, 0, none⟩) 0 0, s] (H.push (.cells true 3 [])) = some (.val v', H') ∧ Kept H H' none ∧ VsAt H' v' xs l ∧ oneC v' = true ∧ v'.cells = #[v'] ∧ (∀ b, blockOf v' = some b → H.next ≤ b ∧ b < H'.next) := by
  have k1 := (Kept.refl hw none).push (.cells true 3 [])
  have hv1 := hvs.ext (k1.ext hw)
  have he : rdS (H.push (.cells true 3 [])) 3 (.slice (some ⟨H.next, 0, none⟩) 0 0) = some [] := by simp [rdS, get_push_self, capA, chunks]
  obtain ⟨v', H', e, k2, hrd, hc⟩ := app_vals k1.wf he (by rw [BIG_val]; omega) (Nat.le_refl _) hv1.1 (by rw [hvs.2.1]; omega) (vals_all hv1) rfl
  rw [List.nil_append] at hrd hc
  obtain ⟨o1, o2, _⟩ := rdS_one hrd
  have hvs2 : VsAt H' v' xs l := ⟨hrd, hvs.2.1, fun i x v a b => ((hv1.2.2.1 i x v a b).ext (k2.ext k1.wf)), by
    rcases hc with ⟨rfl, _⟩ | hg
    · exact .inl (by rw [BIG_val]; omega)
    · exact hg.ok⟩
  refine ⟨v', H', e, k1.trans k2, hvs2, o2, o1, ?_⟩
  · intro b hb
    rcases hc with ⟨rfl, rfl, _⟩ | hg
    · cases hb; exact ⟨Nat.le_refl _, by simp⟩
    · have := hg.blk b hb
      simp at this; omega
theorem refMake_run {lf : Nat} {H : Heap} {s : Value} {d : ValD} (hw : H.Wf) (hv : rdVals H s = some d.own) (hsz : d.size ≤ 1073741824) :
    ∃ s' H', evFn Try.prog (callOf [refRightC]) lf 19 [.int .i64 d.kind, .int .i64 d.num, s] H = some (.ret (.tuple #[.agg #[.int .i64 (makeL d).1.kind, .int .i64 (makeL d).1.num, s'], .int .i64 (makeL d).2]), H') ∧ Kept H H' none ∧ VAt H' (makeL d).1 [.int .i64 (makeL d).1.kind, .int .i64 (makeL d).1.num, s'] := by
  have hlen := ValD.length_sizes d.own
  have hse := ValD.size_eq d
  obtain ⟨xs0, hx0⟩ := rdVals_inv hv
  obtain ⟨_, os0, _⟩ := rdS_one hx0.1
  have k1 := (Kept.refl hw none).push (.cells true 3 [.int .i64 0, .int .i64 0, .slice none 0 0])
  have g1 := get_push_self H (.cells true 3 [.int .i64 0, .int .i64 0, .slice none 0 0])
  have n1 : (H.push (.cells true 3 [.int .i64 0, .int .i64 0, .slice none 0 0])).next = H.next + 1 := rfl
  generalize hH1 : H.push (.cells true 3 [.int .i64 0, .int .i64 0, .slice none 0 0]) = H1 at *
  obtain ⟨v', H2, ap, k2, hy, ov, cv, bv⟩ := app_new k1.wf (hx0.ext (k1.ext hw)) (by omega)
  have b0 := build0_23 (H := H1)
  have bt := built25 (k := d.kind) (n := d.num) hy.1
  have hva : VAt H2 d [.int .i64 d.kind, .int .i64 d.num, v'] := .of hy.2.2.2 hy.1 hy.2.1 hy.2.2.1
  have k3 := valIn_kept k2.wf d.kind d.num v'
  have g3 := valIn_self H2 d.kind d.num v'
  have st3 := store25 (H := H2) (k := d.kind) (n := d.num) ov
  have g13 := (k2.trans k3).of_get k1.wf g1 (by simp)
  have n2 := k2.le
  generalize valIn H2 d.kind d.num v' = H3 at *
  have ld : loadA Try.prog 25 H3 H2.next 0 = some (.agg #[.int .i64 d.kind, .int .i64 d.num, v']) := by simp [loadA, g3]
  have c10 : callOf [refRightC] (.fn 10 [.agg #[.int .i64 d.kind, .int .i64 d.num, v']]) H3 = _ := refRight_hit (cs := []) (rdVal_of (hva.ext (k3.ext k2.wf))) hsz
  generalize callOf [refRightC] = call at c10
  have hl := k3.wf.lt g13
  generalize hr : evFn Try.prog call lf 19 [.int .i64 d.kind, .int .i64 d.num, s] H = out
  cases hR : rightL d with
  | true =>
    have hM : makeL d = (d, 0) := by simp [makeL, hR]
    rw [hM]
    rw [hR] at c10
    have st4 : storeA Try.prog 25 H3 H.next 0 (.agg #[.int .i64 d.kind, .int .i64 d.num, v']) = some (H3.set H.next (.cells true 3 [.int .i64 d.kind, .int .i64 d.num, v'])) := by simp [storeA, g13, ov, putL]
    have l4 : loadA Try.prog 25 (H3.set H.next (.cells true 3 [.int .i64 d.kind, .int .i64 d.num, v'])) H.next 0 = some (.agg #[.int .i64 d.kind, .int .i64 d.num, v']) := by simp [loadA, get_set_self]
    simp [Try.f19, hH1, b0, ap, bt, st3, ld, callA, c10, st4, l4] at hr
    have hsame : ∀ b, blockOf v' = some b → (H3.set H.next (.cells true 3 [.int .i64 d.kind, .int .i64 d.num, v'])).get b = H2.get b := by
      intro b hb
      have hb1 := bv b hb
      rw [get_set_ne (by omega)]
      exact k3.get b hb1.2 (by simp)
    have kk := ((k1.trans k2).trans k3).set (Nat.le_refl _) hl (.cells true 3 [.int .i64 d.kind, .int .i64 d.num, v'])
    refine ⟨v', _, hr.symm, kk, .of (sliceOk_as hsame hy.2.2.2) ((rdS_as hsame).trans hy.1) hy.2.1 fun i x v a b => (hx0.2.2.1 i x v a b).ext (kk.ext hw)⟩
  | false =>
    have hM : makeL d = (.mk 0 0 [], 40) := by simp [makeL, hR]
    rw [hM]
    rw [hR] at c10
    have st4 : storeA Try.prog 25 H3 H.next 0 (.agg #[.int .i64 0, .int .i64 0, .slice none 0 0]) = some (H3.set H.next (.cells true 3 [.int .i64 0, .int .i64 0, .slice none 0 0])) := by simp [storeA, g13, putL]
    have l4 : loadA Try.prog 25 (H3.set H.next (.cells true 3 [.int .i64 0, .int .i64 0, .slice none 0 0])) H.next 0 = some (.agg #[.int .i64 0, .int .i64 0, .slice none 0 0]) := by simp [loadA, get_set_self]
    simp [Try.f19, hH1, b0, ap, bt, built25z, st3, ld, callA, c10, st4, l4] at hr
    exact ⟨.slice none 0 0, _, hr.symm, ((k1.trans k2).trans k3).set (Nat.le_refl _) hl _, .of trivial rfl rfl (fun i x v a => by simp at a)⟩
end Go.Proofs.Ytgopamojnoefiaa

namespace Go.Proofs.Ytgopamojnoefiaa
open Go Go.Abs
set_option maxRecDepth 100000
set_option linter.unusedSimpArgs false
set_option linter.unusedVariables false

/-! ### ValMakes (4) -/
noncomputable def c4 : List (Contract Try.prog) := [refSizeC, numC, refSameC, worksC]
noncomputable def in18 : CallF := ev1 Try.prog callM 0
noncomputable def in19 : CallF := ev1 Try.prog (callOf [refRightC]) 0
theorem in18_ok : CallOk Try.prog in18 := ev1_sound callM_ok
theorem in19_ok : CallOk Try.prog in19 := ev1_sound (callOf_ok _)
noncomputable def call4 : CallF := orC (callOf c4) (orC (onlyC 18 in18) (onlyC 19 in19))
theorem call4_ok : CallOk Try.prog call4 := orC_ok (callOf_ok _) (orC_ok (onlyC_ok in18_ok) (onlyC_ok in19_ok))
theorem c4_miss {f : FuncId} {args : List Value} {H : Heap} (h : f = 18 ∨ f = 19) : callOf c4 (.fn f args) H = none := by
  unfold c4
  rcases h with rfl | rfl <;> (iterate 4 rw [callOf_miss (by decide)]) <;> rfl
theorem call4_18 {args : List Value} {H : Heap} {r : CRes × Heap} (h : evFn Try.prog callM 0 18 args H = some r) : call4 (.fn 18 args) H = some r :=
  (orC_miss (c4_miss (.inl rfl))).trans (orC_hit (onlyC_hit.trans h))
theorem call4_19 {args : List Value} {H : Heap} {r : CRes × Heap} (h : evFn Try.prog (callOf [refRightC]) 0 19 args H = some r) : call4 (.fn 19 args) H = some r :=
  (orC_miss (c4_miss (.inr rfl))).trans ((orC_miss (onlyC_miss (by decide))).trans (onlyC_hit.trans h))

def pMk : List Nat := [1, 1, 0, 1, 0, 0]
theorem mks_exit {call : CallF} {lf : Nat} {env : Env} {H : Heap} {i : Nat} {s : Value} {l : List ValD} (e2 : env.val 2 = s) (e7 : env.val 7 = .int .i64 (i : Int)) (vs : rdVals H s = some l) (hi : l.length ≤ i) :
    ∃ env', evCode Try.prog call lf 55 none (cAt Try.f4 pMk) env [] H = some (.exit 0, env', [], H) ∧ env'.val 0 = env.val 0 ∧ env'.val 1 = env.val 1 ∧ env'.val 2 = env.val 2 := by
  have c1 : ¬ (i : Int) < (l.length : Int) := by omega
  have hl := rdVals_len vs 23 Try.underlying23
  generalize hr : evCode Try.prog call lf 55 none (cAt Try.f4 pMk) env [] H = out
  simp [pMk, Try.f4, e2, e7, hl, c1] at hr
  subst hr
  exact ⟨_, rfl, by simp, by simp, by simp [e2]⟩
theorem mks_step {call : CallF} {lf : Nat} {env : Env} {H : Heap} {i : Nat} {s s' : Value} {l : List ValD} {v : ValD} (e2 : env.val 2 = s) (e7 : env.val 7 = .int .i64 (i : Int)) (vs : rdVals H s = some l) (hv : l[i]? = some v) (hn : l.length < 1099511627776)
    (lv : loadA Try.prog 25 H (blk s) (offs s + i * 3) = some (.agg #[.int .i64 v.kind, .int .i64 v.num, s'])) (hc : call (.fn 14 [.agg #[.int .i64 v.kind, .int .i64 v.num, s']]) H = some (.ret (.int .i64 (refSize v)), H)) (hw : call (.fn 17 []) H = some (.ret (.bool true), H)) :
    (refSize v ≤ 256 → ∃ env', evCode Try.prog call lf 55 none (cAt Try.f4 pMk) env [] H = some (.normal, env', [], H) ∧ env'.val 0 = env.val 0 ∧ env'.val 1 = env.val 1 ∧ env'.val 2 = env.val 2 ∧ env'.val 7 = .int .i64 ((i + 1 : Nat) : Int)) ∧
    (¬ refSize v ≤ 256 → ∃ env', evCode Try.prog call lf 55 none (cAt Try.f4 pMk) env [] H = some (.ret, env', [], H) ∧ env'.val 6 = .bool true) := by
  have hi := (List.getElem?_eq_some_iff.1 hv).1
  have c1 : (i : Int) < (l.length : Int) := by omega
  have w1 : IntKind.i64.wrap ((i : Int) + 1) = (i : Int) + 1 := wrapI (by omega) (by omega)
  have hl := rdVals_len vs 23 Try.underlying23
  obtain ⟨_, ix, _⟩ := rdVals_at vs hv
  generalize refSize v = n at *
  constructor
  · intro hle
    have c2 : ¬ (256 : Int) < n := by omega
    generalize hr : evCode Try.prog call lf 55 none (cAt Try.f4 pMk) env [] H = out
    simp [pMk, Try.f4, e2, e7, hl, c1, hi, ix, lv, callA, hc, c2, hle, w1] at hr
    subst hr
    exact ⟨_, rfl, by simp, by simp, by simp [e2], by simp⟩
  · intro hle
    have c2 : (256 : Int) < n := by omega
    generalize hr : evCode Try.prog call lf 55 none (cAt Try.f4 pMk) env [] H = out
    simp [pMk, Try.f4, e2, e7, hl, c1, hi, ix, lv, callA, hc, c2, hle, hw] at hr
    subst hr
    exact ⟨_, rfl, by simp⟩
theorem mks_loop {call : CallF} {lf : Nat} {H : Heap} {s : Value} {l : List ValD} (vs : rdVals H s = some l) (hn : l.length < 1099511627776) (hw : call (.fn 17 []) H = some (.ret (.bool true), H))
    (hcall : ∀ v ∈ l, ∀ x, rdVal H x = some v → call (.fn 14 [x]) H = some (.ret (.int .i64 (refSize v)), H)) :
    ∀ (d i m : Nat) (env : Env), d < m → l.length = i + d → env.val 2 = s → env.val 7 = .int .i64 (i : Int) →
    (∃ env', evLoop Try.prog call lf 55 none (cAt Try.f4 pMk) m env [] H = some (.exit 0, env', [], H) ∧ env'.val 0 = env.val 0 ∧ env'.val 1 = env.val 1 ∧ env'.val 2 = s) ∨
    (∃ env', evLoop Try.prog call lf 55 none (cAt Try.f4 pMk) m env [] H = some (.ret, env', [], H) ∧ env'.val 6 = .bool true)
  | d, i, 0, env, hm, _, _, _ => by omega
  | 0, i, m + 1, env, hm, hd, e2, e7 => by
    obtain ⟨env', he, u0, u1, u2⟩ := mks_exit (call := call) (lf := lf) e2 e7 vs (by omega)
    simp only [evLoop_succ, he]
    exact .inl ⟨env', rfl, u0, u1, u2.trans e2⟩
  | d + 1, i, m + 1, env, hm, hd, e2, e7 => by
    have hx := List.getElem?_eq_getElem (l := l) (i := i) (by omega)
    obtain ⟨s', _, _, lv, hva, _⟩ := rdVals_at vs hx
    obtain ⟨q1, q2⟩ := mks_step (lf := lf) e2 e7 vs hx hn lv (hcall _ (List.getElem_mem (l := l) (n := i) (by omega)) _ (rdVal_of hva)) hw
    by_cases h : refSize (l[i]'(by omega)) ≤ 256
    · obtain ⟨env', he, u0, u1, u2, u7⟩ := q1 h
      have := mks_loop (lf := lf) vs hn hw hcall d (i + 1) m env' (by omega) (by omega) (u2.trans e2) u7
      simp only [evLoop_succ, he]
      rcases this with ⟨e3, a, b, c, f⟩ | h
      · exact .inl ⟨e3, a, b.trans u0, c.trans u1, f⟩
      · exact .inr h
    · obtain ⟨env', he, u6⟩ := q2 h
      simp only [evLoop_succ, he]
      exact .inr ⟨env', rfl, u6⟩
theorem makeL_size (d : ValD) : (makeL d).1.size ≤ 256 := by
  unfold makeL
  split
  · rename_i h
    rw [rightL_eq] at h
    simp at h
    exact h.1
  · simp [ValD.size, ValD.sizes]
theorem refSame_self {a : ValD} (h : a.size ≤ 256) : refSameL a a = true := by
  unfold refSameL
  rw [decide_eq_true h, (sameL_iff a a).2 rfl]; rfl
theorem makes_run {H : Heap} {k n : Int} {s : Value} {l : List ValD} (hw : H.Wf) (hv : rdVals H s = some l) (hb : ValD.sizes l < 1073741824) : ∃ H', evFn Try.prog call4 1000 4 [.int .i64 k, .int .i64 n, s] H = some (.ret (.bool true), H') := by
  have h17 : ∀ K, call4 (.fn 17 []) K = some (.ret (.bool true), K) := fun K => orC_hit (by unfold c4; (iterate 3 rw [callOf_miss (by decide)]); exact callOf_hit rfl rfl)
  have h14 : ∀ (K : Heap) (x : Value) (v : ValD), rdVal K x = some v → v.size ≤ 1073741824 → call4 (.fn 14 [x]) K = some (.ret (.int .i64 (refSize v)), K) := fun K x v hx hs => orC_hit (refSize_hit hx hs)
  have h11 : ∀ (K : Heap) (i : Int), call4 (.fn 11 [.int .i64 i]) K = some (.ret (.int .i64 i), K) := fun K i => orC_hit (by unfold c4; rw [callOf_miss (by decide)]; exact callOf_hit rfl rfl)
  have h20 : ∀ (K : Heap) (x y : Value) (a : ValD), rdVal K x = some a → rdVal K y = some a → a.size ≤ 256 → call4 (.fn 20 [x, y]) K = some (.ret (.bool true), K) := fun K x y a hx hy ha => orC_hit (by unfold c4; rw [callOf_miss (by decide), callOf_miss (by decide), refSame_hit hx hy (by omega) (by omega), refSame_self ha])
  have h18 : ∀ {args : List Value} {K : Heap} {r : CRes × Heap}, evFn Try.prog callM 0 18 args K = some r → call4 (.fn 18 args) K = some r := fun h => call4_18 h
  have h19 : ∀ {args : List Value} {K : Heap} {r : CRes × Heap}, evFn Try.prog (callOf [refRightC]) 0 19 args K = some r → call4 (.fn 19 args) K = some r := fun h => call4_19 h
  generalize call4 = call at *
  have hl := rdVals_len hv 23 Try.underlying23
  obtain ⟨sc, os, _⟩ := rdVals_one hv
  generalize hE : evFn Try.prog call 1000 4 [.int .i64 k, .int .i64 n, s] H = out
  have hr := hE
  by_cases hgt : 20 < l.length
  · have hgt' : (20 : Int) < (l.length : Int) := by omega
    simp [Try.f4, hl, hgt, hgt', callA, h17] at hr
    exact ⟨H, hr.symm⟩
  · have hgt' : ¬ (20 : Int) < (l.length : Int) := by omega
    simp [Try.f4, hl, hgt, hgt'] at hr
    generalize hL0 : evLoop _ _ _ _ _ _ _ _ _ _ = L at hr
    have aux : ∀ env, evLoop Try.prog call 1000 55 none (cAt Try.f4 pMk) 1000 env [] H = L → env.val 2 = s → env.val 7 = .int .i64 (0 : Nat) →
        (∃ env', L = some (.exit 0, env', [], H) ∧ env'.val 0 = env.val 0 ∧ env'.val 1 = env.val 1 ∧ env'.val 2 = s) ∨ (∃ env', L = some (.ret, env', [], H) ∧ env'.val 6 = .bool true) := by
      intro env hL e2 e7
      have := mks_loop (lf := 1000) hv (by omega) (h17 H) (fun v hm x hx => h14 H x v hx (by have := ValD.mem_sizes hm; omega)) l.length 0 1000 env (by omega) (by omega) e2 e7
      rw [hL] at this
      exact this
    rcases aux _ hL0 (by simp) (by simp) with ⟨env', rfl, u0, u1, u2⟩ | ⟨env', rfl, u6⟩
    · simp at u0 u1
      obtain ⟨s1, H2, c18, k2, ho⟩ := make_run (lf := 0) (d := .mk k n l) hw hv (by simp only [ValD.size]; omega)
      obtain ⟨s2, xs2, e2, hr2, _⟩ := ho.inv
      simp only [List.cons.injEq, true_and, and_true] at e2
      subst e2
      obtain ⟨_, os1, _⟩ := hr2.one
      have c18' := h18 c18
      have k3 := valIn_kept k2.wf (makeL (.mk k n l)).1.kind (makeL (.mk k n l)).1.num s1
      have g3 := valIn_self H2 (makeL (.mk k n l)).1.kind (makeL (.mk k n l)).1.num s1
      have st3 := store25 (H := H2) (k := (makeL (.mk k n l)).1.kind) (n := (makeL (.mk k n l)).1.num) os1
      generalize valIn H2 (makeL (.mk k n l)).1.kind (makeL (.mk k n l)).1.num s1 = H3 at *
      obtain ⟨s3, H4, c19, k4, ho4⟩ := refMake_run (lf := 0) (d := .mk k n l) k3.wf (rdVals_ext ((k2.trans k3).ext hw) hv) (by simp only [ValD.size]; omega)
      obtain ⟨s4, e4, _, os3, _⟩ := ho4.one
      simp only [List.cons.injEq, true_and, and_true] at e4
      subst e4
      have c19' := h19 c19
      have k5 := valIn_kept k4.wf (makeL (.mk k n l)).1.kind (makeL (.mk k n l)).1.num s3
      have g5 := valIn_self H4 (makeL (.mk k n l)).1.kind (makeL (.mk k n l)).1.num s3
      have st5 := store25 (H := H4) (k := (makeL (.mk k n l)).1.kind) (n := (makeL (.mk k n l)).1.num) os3
      have g35 := (k4.trans k5).of_get k3.wf g3 (by simp)
      generalize valIn H4 (makeL (.mk k n l)).1.kind (makeL (.mk k n l)).1.num s3 = H5 at *
      have l5 : loadA Try.prog 25 H5 H2.next 0 = some (.agg #[.int .i64 (makeL (.mk k n l)).1.kind, .int .i64 (makeL (.mk k n l)).1.num, s1]) := by simp [loadA, g35]
      have l6 : loadA Try.prog 25 H5 H4.next 0 = some (.agg #[.int .i64 (makeL (.mk k n l)).1.kind, .int .i64 (makeL (.mk k n l)).1.num, s3]) := by simp [loadA, g5]
      have q20 := h20 H5 _ _ (makeL (.mk k n l)).1 (rdVal_of (ho.at.ext (((k3.trans k4).trans k5).ext k2.wf))) (rdVal_of (ho4.ext (k5.ext k4.wf))) (makeL_size _)
      have hdk : (ValD.mk k n l).kind = k := rfl
      have hdn : (ValD.mk k n l).num = n := rfl
      rw [hdk, hdn] at c18' c19'
      generalize (makeL (.mk k n l)).1.kind = kk at *
      generalize (makeL (.mk k n l)).1.num = nn at *
      generalize (makeL (.mk k n l)).2 = ee at *
      simp [u0, u1, u2, callA, c18', st3, c19', st5, l5, l6, q20, h11, h17] at hr
      exact ⟨H5, by simpa using hr.symm⟩
    · exact ⟨H, by simpa [u6] using hr.symm⟩
end Go.Proofs.Ytgopamojnoefiaa

namespace Go.Proofs.Ytgopamojnoefiaa
open Go Go.Abs
set_option maxRecDepth 100000
set_option linter.unusedSimpArgs false
set_option linter.unusedVariables false

/-! ### Rows of values that come in -/
theorem vals_of_AR {D : Type} {H : Heap} {w : Value} {d : DataW D} (h : AR Try.prog H 23 [w] d) : ∃ l, rdVals H w = some l ∧ ValD.sizes l + 1 ≤ Rows.uptoBulk d := by
  have hu3 := Try.underlying23
  generalize hc : [w] = cs at h
  cases h with
  | int ht hw => rw [hu3] at ht; cases ht
  | bool ht => rw [hu3] at ht; cases ht
  | string ht _ => rw [hu3] at ht; cases ht
  | sliceNil ht =>
    cases hc
    exact ⟨[], rdVals_of (xs := []) ⟨rfl, rfl, (fun i x v hx => by simp at hx), trivial⟩, by simp [ValD.sizes, Rows.uptoBulk]⟩
  | struct ht _ _ _ => rw [hu3] at ht; cases ht
  | slice ht hr hs hnn hl2 hm hx2 =>
    rename_i e v xs es sp
    cases hc
    rw [hu3] at ht; cases ht
    rw [cells25] at hr
    simp only [Rows.uptoBulk]
    obtain ⟨l, g1, g2, g3, g4, _⟩ := vals_list hl2 (fun i x d a b => val_of_AR _ (d := d) (Nat.le_refl _) (hx2 i x d a b))
    refine ⟨l, rdVals_of (xs := xs) ⟨hr, g1, g2, ?_⟩, by omega⟩
    unfold sliceOk
    split
    · rename_i a' n' c'
      exact .inl (by simpa [small] using hs)
    · trivial
end Go.Proofs.Ytgopamojnoefiaa
