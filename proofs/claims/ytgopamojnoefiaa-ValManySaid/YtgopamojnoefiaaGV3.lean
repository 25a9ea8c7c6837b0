/-
  A part of a proof: texts laid behind one another (V17, V18, V19, V20, V21, V22, V23, V24, V25).
-/
import Derived.Test.YtgopamojnoefiaaGV2
import Derived.Test.YtgopamojnoefiaaGK
import Derived.Test.YtgopamojnoefiaaGA4
import Derived.Test.YtgopamojnoefiaaRows
namespace Go.Proofs.Ytgopamojnoefiaa
open Go Go.Abs
set_option maxRecDepth 100000
set_option linter.unusedSimpArgs false
set_option linter.unusedVariables false

/-! ### The reference's Size (14) -/
def pSz : List Nat := [1, 1, 1, 0, 0, 0]
theorem build23 {H : Heap} : buildSliceA Try.prog 23 0 [] H = some (.slice (some ⟨H.next, 0, none⟩) 0 0, H.push (.cells true 3 [])) := by kernel_rfl
theorem sz_exit {call : CallF} {lf : Nat} {env : Env} {H : Heap} {w : Value} {xs : List (List Value)} {n : Nat} (e3 : env.val 3 = w) (hw : rdS H 3 w = some xs) (e4 : env.val 4 = .int .i64 n) (hx : xs.length = 0 ∨ 256 < n) :
    ∃ env', evCode Try.prog call lf 28 none (cAt Try.f14 pSz) env [] H = some (.exit 0, env', [], H) ∧ env'.val 4 = env.val 4 := by
  have hl := len_of (H' := H) (P := Try.prog) (t := 23) hw Try.underlying23
  generalize hr : evCode Try.prog call lf 28 none (cAt Try.f14 pSz) env [] H = out
  by_cases h0 : xs.length = 0
  · have c1 : ¬ (0 : Int) < (xs.length : Int) := by omega
    have c1' : ¬ 0 < xs.length := by omega
    simp [pSz, Try.f14, e3, e4, hl, c1, c1', undef] at hr
    subst hr
    exact ⟨_, rfl, by simp [e4]⟩
  · have c1 : (0 : Int) < (xs.length : Int) := by omega
    have c1' : 0 < xs.length := by omega
    have c2 : ¬ (n : Int) ≤ 256 := by omega
    have c2' : ¬ n ≤ 256 := by omega
    simp [pSz, Try.f14, e3, e4, hl, c1, c1', c2, c2'] at hr
    subst hr
    exact ⟨_, rfl, by simp [e4]⟩

/-- What stands in the queue. -/
def VsC (H : Heap) (l : List ValD) (xs : List (List Value)) : Prop := xs.length = l.length ∧ ∀ (i : Nat) x v, xs[i]? = some x → l[i]? = some v → VAt H v x
theorem VsC.ext {H H' : Heap} (hx : Ext H H') {l : List ValD} {xs : List (List Value)} (h : VsC H l xs) : VsC H' l xs := ⟨h.1, fun i x v a b => (h.2 i x v a b).ext hx⟩
theorem VsC.append {H : Heap} {l r : List ValD} {xs ys : List (List Value)} (h : VsC H l xs) (k : VsC H r ys) : VsC H (l ++ r) (xs ++ ys) := by
  refine ⟨by simp [h.1, k.1], fun i x v a b => ?_⟩
  by_cases hi : i < l.length
  · rw [List.getElem?_append_left (by rw [h.1]; exact hi)] at a
    rw [List.getElem?_append_left hi] at b
    exact h.2 i x v a b
  · rw [List.getElem?_append_right (by rw [h.1]; omega)] at a
    rw [List.getElem?_append_right (by omega)] at b
    rw [h.1] at a
    exact k.2 _ x v a b
theorem VsC.all {H : Heap} {l : List ValD} {xs : List (List Value)} (h : VsC H l xs) : xs.flatten.all oneC = true := by
  rw [List.all_eq_true]
  intro y hy
  obtain ⟨x, hx, hyx⟩ := List.mem_flatten.1 hy
  obtain ⟨i, hi, rfl⟩ := List.mem_iff_getElem.1 hx
  have hv := h.2 i _ _ (List.getElem?_eq_getElem hi) (List.getElem?_eq_getElem (by rw [← h.1]; exact hi))
  obtain ⟨s, e, _, o, _⟩ := hv.one
  rw [e] at hyx
  simp only [List.mem_cons, List.not_mem_nil, or_false] at hyx
  rcases hyx with rfl | rfl | rfl
  · rfl
  · rfl
  · exact o

/-- append onto any row of values: a new row, or the same, if nothing is appended. -/
theorem app_vals {H : Heap} {b n c : Nat} {xv ys : List (List Value)} {x : Value} (hw : H.Wf) (hv : rdS H 3 (.slice (some ⟨b, 0, none⟩) n c) = some xv) (hc : c < BIG) (hcn : c ≤ n) (hx : rdS H 3 x = some ys) (hn : n + ys.length ≤ 1073741824) (h1 : ys.flatten.all oneC = true) (hl : xv.length = n) :
    ∃ v' H', builtinA Try.prog .append #[23, 23] [.slice (some ⟨b, 0, none⟩) n c, x] H = some (.val v', H') ∧ Kept H H' none ∧ rdS H' 3 v' = some (xv ++ ys) ∧ ((v' = .slice (some ⟨b, 0, none⟩) n c ∧ H' = H ∧ ys = []) ∨ rowG 3 H.next H' (xv ++ ys) v') := by
  by_cases h0 : ys.length = 0
  · have hys := List.eq_nil_of_length_eq_zero h0
    subst hys
    refine ⟨_, H, app_none (P := Try.prog) (t := 23) elem23 zero25 (by decide) (by simp) (by rfl) (xv := xv) (xs := []) (by simp; exact hv) (by omega) (by simp; exact hx) rfl, Kept.refl hw _, by simpa using hv, .inl ⟨rfl, rfl, rfl⟩⟩
  · have ap := app_full (P := Try.prog) (t := 23) elem23 zero25 (by decide) (by simp) (by rfl) hw (xv := xv) (xs := ys) (by simp; exact hv) hc (by omega) (x := x) (by simp; exact hx) hn h1 (by omega)
    have hel : ∀ y ∈ xv ++ ys, y.length = 3 := by
      intro y hy
      rcases List.mem_append.1 hy with h | h
      · obtain ⟨k, hk, rfl⟩ := List.mem_iff_getElem.1 h; exact rdS_elem hv (List.getElem?_eq_getElem hk)
      · obtain ⟨k, hk, rfl⟩ := List.mem_iff_getElem.1 h; exact rdS_elem hx (List.getElem?_eq_getElem hk)
    have hrow : rowG 3 H.next (H.push (.cells true 3 (xv.flatten ++ ys.flatten))) (xv ++ ys) (.slice (some ⟨H.next, 0, none⟩) (n + ys.length) BIG) := by
      refine .inr ⟨H.next, BIG, xv.flatten ++ ys.flatten, by simp [hl], get_push_self _ _, ?_, ?_, Nat.le_refl _, by simp, .inl rfl⟩
      · rw [← List.flatten_append, flatten_length _ hel]; exact Nat.le_refl _
      · rw [← List.flatten_append]; exact Go.Abs.chunks_flatten _ hel
    refine ⟨_, _, by simpa using ap, (Kept.refl hw none).push _, hrow.rd, .inr hrow⟩
end Go.Proofs.Ytgopamojnoefiaa

namespace Go.Proofs.Ytgopamojnoefiaa
open Go Go.Abs
set_option maxRecDepth 100000
set_option linter.unusedSimpArgs false
set_option linter.unusedVariables false

theorem rowG_append {lo : Nat} {H : Heap} {xs ys : List (List Value)} {v x : Value} (hw : H.Wf) (hv : rowG 3 lo H xs v) (hlo : lo ≤ H.next) (hx : rdS H 3 x = some ys) (hn : xs.length + ys.length ≤ 1073741824) (h1 : ys.flatten.all oneC = true) :
    ∃ v' H', builtinA Try.prog .append #[23, 23] [v, x] H = some (.val v', H') ∧ Kept H H' (blockOf v) ∧ rowG 3 lo H' (xs ++ ys) v' := by
  by_cases h0 : ys.length = 0
  · have hys := List.eq_nil_of_length_eq_zero h0
    subst hys
    refine ⟨_, H, app_none (P := Try.prog) (t := 23) elem23 zero25 (by decide) (by simp) (by rfl) (xv := xs) (xs := []) (by simp; exact hv.rd) (by omega) (by simp; exact hx) rfl, Kept.refl hw _, by simpa using hv⟩
  · obtain ⟨v', H', ap, k, r, _⟩ := hv.app (P := Try.prog) (t := 23) elem23 zero25 (by simp) (by decide) (by omega) (by rfl) hw hx hn h1 (by omega) hlo
    exact ⟨v', H', ap, k, r⟩

/-- append(append([]Val{}, a...), b...). -/
theorem two_apps {H : Heap} {xs ys : List (List Value)} {w1 s : Value} (hw : H.Wf) (h1 : rdS H 3 w1 = some xs) (h2 : rdS H 3 s = some ys) (hn : xs.length + ys.length ≤ 1073741824) (a1 : xs.flatten.all oneC = true) (a2 : ys.flatten.all oneC = true) :
    ∃ v1 H2 v2 H3, builtinA Try.prog .append #[23, 23] [.slice (some ⟨H.next, 0, none⟩) 0 0, w1] (H.push (.cells true 3 [])) = some (.val v1, H2) ∧ Kept H H2 none ∧ builtinA Try.prog .append #[23, 23] [v1, s] H2 = some (.val v2, H3) ∧ Kept H H3 none ∧ rdS H3 3 v2 = some (xs ++ ys) ∧ sliceOk H3 3 v2 := by
  have k1 := (Kept.refl hw none).push (.cells true 3 [])
  have x1 := k1.ext hw
  have he : rdS (H.push (.cells true 3 [])) 3 (.slice (some ⟨H.next, 0, none⟩) 0 0) = some [] := by simp [rdS, get_push_self, capA, chunks]
  obtain ⟨v1, H2, ap1, k2, r1, hcase⟩ := app_vals k1.wf he (by rw [BIG_val]; omega) (Nat.le_refl _) (rdS_ext x1 h1) (by omega) a1 rfl
  have k12 := k1.trans k2
  rcases hcase with ⟨rfl, rfl, rfl⟩ | hrow
  · obtain ⟨v2, H3, ap2, k3, r2, hc2⟩ := app_vals k1.wf he (by rw [BIG_val]; omega) (Nat.le_refl _) (rdS_ext x1 h2) (by simpa using hn) a2 rfl
    refine ⟨_, _, v2, H3, ap1, k12, ap2, k1.trans k3, by simpa using r2, ?_⟩
    rcases hc2 with ⟨rfl, rfl, _⟩ | hrow
    · exact .inl (by rw [BIG_val]; omega)
    · exact hrow.ok
  · simp only [List.nil_append] at hrow
    obtain ⟨v2, H3, ap2, k3, r2⟩ := rowG_append k12.wf hrow k2.le (rdS_ext (k12.ext hw) h2) hn a2
    exact ⟨v1, H2, v2, H3, ap1, k12, ap2, k12.drop k3 (fun b e => by have := (hrow.blk b e).1; simp at this; omega), r2.rd, r2.ok⟩

theorem sz_step {call : CallF} {lf : Nat} {Hs H : Heap} {env : Env} {w : Value} {xs : List (List Value)} {l : List ValD} {d : ValD} {n : Nat} (hws : Hs.Wf) (ks : Kept Hs H none) (e3 : env.val 3 = w) (e4 : env.val 4 = .int .i64 n) (hw : rdS H 3 w = some xs) (hq : sliceOk H 3 w) (hv : VsC Hs (d :: l) xs) (hn : n ≤ 256) (hsz : ValD.sizes (d :: l) ≤ 1073741824) :
    ∃ env' H' w' xs', evCode Try.prog call lf 28 none (cAt Try.f14 pSz) env [] H = some (.normal, env', [], H') ∧ env'.val 3 = w' ∧ env'.val 4 = .int .i64 ((n + 1 : Nat) : Int) ∧ Kept Hs H' none ∧ rdS H' 3 w' = some xs' ∧ sliceOk H' 3 w' ∧ VsC Hs (l ++ d.own) xs' := by
  have xk := ks.ext hws
  have hlen := hv.1
  simp only [List.length_cons] at hlen
  have hl := len_of (H' := H) (P := Try.prog) (t := 23) hw Try.underlying23
  obtain ⟨x0, hx0⟩ : ∃ x, xs[0]? = some x := ⟨_, List.getElem?_eq_getElem (by omega)⟩
  have hva := hv.2 0 x0 d hx0 rfl
  obtain ⟨s, e, _, os, oe, _⟩ := hva.one
  subst e
  have ix := rdS_index hw Try.underlying23 info25 size25 (n := 0) (by omega) (by omega)
  have lx := rdS_loadA hw hx0 (t := 25) info25 size25 Try.underlying25 rfl
  simp only [Int.toNat_zero, Nat.zero_mul, Nat.add_zero] at ix lx
  have st := store25 (H := H) (k := d.kind) (n := d.num) os
  have k3 := valIn_kept ks.wf d.kind d.num s
  have g3 := valIn_self H d.kind d.num s
  have n3 : (valIn H d.kind d.num s).next = H.next + 1 := rfl
  generalize valIn H d.kind d.num s = K at *
  have x3 := k3.ext ks.wf
  obtain ⟨sv, ys, e', hs, hsl, hh, _⟩ := hva.inv
  simp only [List.cons.injEq, true_and, and_true] at e'
  subst e'
  have hwK := rdS_ext x3 hw
  have hqK := hq.ext x3
  obtain ⟨w1, sl, h1, hq1⟩ := rdS_off (P := Try.prog) (t := 23) hwK hqK elem23 size25 (n := 1) (by omega) (by omega)
  have hvl : VsC Hs l (xs.drop 1) := ⟨by simp; omega, fun i x v a b => hv.2 (i + 1) x v (by rw [List.getElem?_drop] at a; rw [show i + 1 = 1 + i by omega]; exact a) (by simpa using b)⟩
  have hvo : VsC Hs d.own ys := ⟨hsl, hh⟩
  have hsz2 : (xs.drop 1).length + ys.length ≤ 1073741824 := by
    have a := ValD.length_sizes l
    have b := ValD.length_sizes d.own
    have c := ValD.size_eq d
    simp only [ValD.sizes] at hsz
    rw [hsl, List.length_drop]
    omega
  obtain ⟨v1, H2, v2, H3, ap1, k12, ap2, k13, r2, hq2⟩ := two_apps k3.wf h1 (rdS_ext (xk.trans x3) hs) hsz2 (hvl.all) (hvo.all)
  have kp : Kept K (K.push (.cells true 3 [])) none := (Kept.refl k3.wf none).push _
  have sl2 := sliceA_ext (kp.ext k3.wf) sl
  have ld : ∀ {K' : Heap}, Kept K K' none → loadA Try.prog 23 K' H.next 2 = some s := fun k => by simp [loadA, k.of_get k3.wf g3 (by simp)]
  have ld0 := ld (Kept.refl k3.wf none)
  have ld1 := ld kp
  have ld2 := ld k12
  have c1 : (0 : Int) < (xs.length : Int) := by omega
  have c1' : 0 < xs.length := by omega
  have c2 : (n : Int) ≤ 256 := by omega
  have wr : IntKind.i64.wrap ((n : Int) + 1) = (n : Int) + 1 := wrapI (by omega) (by omega)
  have bs := build23 (H := K)
  simp only [n3] at bs ap1
  have ov := rdS_one r2
  have ow1 := (rdS_one h1).2.2.1
  generalize hr : evCode Try.prog call lf 28 none (cAt Try.f14 pSz) env [] H = out
  simp [pSz, Try.f14, e3, e4, hl, c1, c1', hn, c2, ix, lx, st] at hr
  rw [evDraw_tab (tab := [(2, [0]), (5, [0, 3])])] at hr
  · simp only [Int.natCast_one] at sl sl2
    simp [e3, e4, bs, sl, sl2, ap1, ap2, ld0, ld1, ld2, ow1, oe, wr] at hr
    subst hr
    exact ⟨_, H3, v2, _, rfl, by simp, by simp, (ks.trans k3).trans k13, r2, hq2, hvl.append hvo⟩
  · kernel_rfl
  · kernel_rfl
end Go.Proofs.Ytgopamojnoefiaa

namespace Go.Proofs.Ytgopamojnoefiaa
open Go Go.Abs
set_option maxRecDepth 100000
set_option linter.unusedSimpArgs false
set_option linter.unusedVariables false

theorem sz_loop {call : CallF} {lf : Nat} {Hs : Heap} (hws : Hs.Wf) : ∀ (dd m : Nat) (env : Env) (K : Heap) (w : Value) (xs : List (List Value)) (l : List ValD) (n : Nat), dd < m → n + dd = 257 → Kept Hs K none → rdS K 3 w = some xs → sliceOk K 3 w → VsC Hs l xs → ValD.sizes l ≤ 1073741824 → env.val 3 = w → env.val 4 = .int .i64 n →
    ∃ env' K', evLoop Try.prog call lf 28 none (cAt Try.f14 pSz) m env [] K = some (.exit 0, env', [], K') ∧ env'.val 4 = .int .i64 ((min (n + ValD.sizes l) 257 : Nat) : Int) ∧ Kept Hs K' none
  | dd, 0, env, K, w, xs, l, n, hm, _, _, _, _, _, _, _, _ => by omega
  | dd, m + 1, env, K, w, xs, l, n, hm, hd, hk, hw, hq, hv, hsz, e3, e4 => by
    cases l with
    | nil =>
      have hx : xs.length = 0 := hv.1
      obtain ⟨env', he, u4⟩ := sz_exit (call := call) (lf := lf) e3 hw e4 (.inl hx)
      simp only [evLoop_succ, he]
      refine ⟨env', K, rfl, ?_, hk⟩
      rw [u4, e4, ValD.sizes, Nat.add_zero, Nat.min_eq_left (by omega)]
    | cons d l =>
      cases dd with
      | zero =>
        obtain ⟨env', he, u4⟩ := sz_exit (call := call) (lf := lf) e3 hw e4 (.inr (by omega))
        simp only [evLoop_succ, he]
        refine ⟨env', K, rfl, ?_, hk⟩
        rw [u4, e4, Nat.min_eq_right (by omega), show n = 257 by omega]
      | succ dd =>
        obtain ⟨env', K', w', xs', he, u3, u4, hk', hw', hq', hv'⟩ := sz_step (call := call) (lf := lf) hws hk e3 e4 hw hq hv (by omega) hsz
        have hss : ValD.sizes (l ++ d.own) + 1 = ValD.sizes (d :: l) := by
          rw [ValD.sizes_append, ValD.sizes, ValD.size_eq]; omega
        obtain ⟨e2, K2, r, u, k2⟩ := sz_loop hws dd m env' K' w' xs' (l ++ d.own) (n + 1) (by omega) (by omega) hk' hw' hq' hv' (by omega) u3 u4
        simp only [evLoop_succ, he]
        refine ⟨e2, K2, r, ?_, k2⟩
        rw [u]
        congr 2
        omega

def refSize (d : ValD) : Int := ((min d.size 257 : Nat) : Int)
theorem refsize_run {call : CallF} {lf : Nat} {H : Heap} {v : Value} {d : ValD} (hw : H.Wf) (hv : rdVal H v = some d) (hlf : 300 ≤ lf) (hsz : d.size ≤ 1073741824) :
    ∃ H', evFn Try.prog call lf 14 [v] H = some (.ret (.int .i64 (refSize d)), H') ∧ Kept H H' none := by
  obtain ⟨s, xs, rfl, h1, h2, h3, hva, sc, os, _⟩ := rdVal_cells hv
  have k1 := (Kept.refl hw none).push (.cells true 3 [.int .i64 d.kind, .int .i64 d.num, s])
  have ld : loadA Try.prog 25 (H.push (.cells true 3 [.int .i64 d.kind, .int .i64 d.num, s])) H.next 0 = some (.agg #[.int .i64 d.kind, .int .i64 d.num, s]) := by simp [loadA, get_push_self]
  have n1 : (H.push (.cells true 3 [.int .i64 d.kind, .int .i64 d.num, s])).next = H.next + 1 := rfl
  generalize hH : H.push (.cells true 3 [.int .i64 d.kind, .int .i64 d.num, s]) = H1 at *
  have bs := val_build (H := H1) (k := d.kind) (n := d.num) (s := s)
  have k2 := (Kept.refl k1.wf none).push (.cells true 3 [.int .i64 d.kind, .int .i64 d.num, s])
  have hrd : rdS (H1.push (.cells true 3 [.int .i64 d.kind, .int .i64 d.num, s])) 3 (.slice (some ⟨H1.next, 0, none⟩) 1 1) = some [[.int .i64 d.kind, .int .i64 d.num, s]] := by
    simp only [rdS, get_push_self]
    rw [if_pos ⟨by decide, by simp⟩]
    simp [chunks]
  generalize hH2 : H1.push (.cells true 3 [.int .i64 d.kind, .int .i64 d.num, s]) = H2 at *
  generalize hE : evFn Try.prog call lf 14 [.agg #[.int .i64 d.kind, .int .i64 d.num, s]] H = out
  have hr := hE
  simp [Try.f14, os, hH, ld, bs] at hr
  generalize hL : evLoop _ _ _ _ _ _ _ _ _ _ = L at hr
  have aux : ∀ env, evLoop Try.prog call lf 28 none (cAt Try.f14 pSz) lf env [] H2 = L → env.val 3 = .slice (some ⟨H1.next, 0, none⟩) 1 1 → env.val 4 = .int .i64 (0 : Nat) → ∃ env' K', L = some (.exit 0, env', [], K') ∧ env'.val 4 = .int .i64 (refSize d) ∧ Kept H K' none := by
    intro env hL e3 e4
    obtain ⟨env', K', r, u, k⟩ := sz_loop (call := call) (lf := lf) hw 257 lf env H2 _ _ [d] 0 (by omega) (by omega) (k1.trans k2) hrd (.inl (by rw [BIG_val]; omega)) ⟨rfl, fun i x v a b => by
      cases i with
      | zero => simp at a b; subst a; subst b; exact hva
      | succ i => simp at a⟩ (by simp only [ValD.sizes]; omega) e3 e4
    refine ⟨env', K', hL.symm.trans r, ?_, k⟩
    rw [u]
    simp [refSize, ValD.sizes]
  obtain ⟨env', K', rfl, u4, k⟩ := aux _ hL (by simp) (by simp)
  exact ⟨K', by simpa [u4] using hr.symm, k⟩
noncomputable def refSizeC : Contract Try.prog := Contract.plain 14
  (fun args H => match args with
    | [v] => match rdVal H v with
      | some d => if d.size ≤ 1073741824 then some (.ret (.int .i64 (refSize d))) else none
      | none => none
    | _ => none) (by
    intro args H res hw hr
    split at hr
    · rename_i v
      split at hr
      · rename_i d hd
        split at hr
        · rename_i hb
          simp only [Option.some.injEq] at hr
          subst hr
          obtain ⟨H', e, k⟩ := refsize_run (call := fun _ _ => none) (lf := 300) hw hd (by omega) hb
          exact ⟨rfl, _, H', noCall_ok, 300, e, k.ext hw⟩
        · cases hr
      · cases hr
    · cases hr)
theorem refSize_hit {cs : List (Contract Try.prog)} {H : Heap} {v : Value} {d : ValD} (h : rdVal H v = some d) (hb : d.size ≤ 1073741824) : callOf (refSizeC :: cs) (.fn 14 [v]) H = some (.ret (.int .i64 (refSize d)), H) :=
  callOf_hit rfl (by simp [refSizeC, Contract.plain, h, hb])

/-! ### Both ways of counting -/
theorem preC_len : ∀ (d : ValD) (dp : Nat), (preC dp d).length ≤ d.size ∧ ((preC dp d).length ≤ 256 → (preC dp d).length = d.size) := by
  intro d
  induction d using ValD.ind with
  | h d ih =>
    intro dp
    rw [preC_eq, List.length_cons]
    have key : ∀ (l : List ValD), (∀ w ∈ l, ∀ dp, (preC dp w).length ≤ w.size ∧ ((preC dp w).length ≤ 256 → (preC dp w).length = w.size)) → (l.flatMap (preC (dp + 1))).length ≤ ValD.sizes l ∧ ((l.flatMap (preC (dp + 1))).length ≤ 256 → (l.flatMap (preC (dp + 1))).length = ValD.sizes l) ∧ l.length ≤ (l.flatMap (preC (dp + 1))).length := by
      intro l
      induction l with
      | nil => intro _; simp [ValD.sizes]
      | cons v l ihl =>
        intro h
        obtain ⟨a1, a2, a3⟩ := ihl fun w hw => h w (by simp [hw])
        obtain ⟨b1, b2⟩ := h v (by simp) (dp + 1)
        have b3 := preC_pos (dp + 1) v
        rw [List.flatMap_cons, List.length_append, ValD.sizes, List.length_cons]
        exact ⟨by omega, fun hle => by rw [b2 (by omega), a2 (by omega)], by omega⟩
    obtain ⟨a1, a2, a3⟩ := key (d.own.take 256) fun w hw => ih w (List.mem_of_mem_take hw)
    have hst := sizes_take d.own 256
    rw [ValD.size_eq]
    refine ⟨by omega, fun hle => ?_⟩
    rw [a2 (by omega)]
    congr 1
    by_cases h : d.own.length ≤ 256
    · rw [List.take_of_length_le h]
    · rw [List.length_take] at a3; omega
theorem preC_big (d : ValD) (dp : Nat) : (preC dp d).length ≤ 256 ↔ d.size ≤ 256 := by
  obtain ⟨h1, h2⟩ := preC_len d dp
  constructor
  · intro h; rw [← h2 h]; exact h
  · intro h; omega
theorem sizeL_eq (d : ValD) : sizeL d = refSize d := by
  unfold sizeL refSize
  obtain ⟨h1, h2⟩ := preC_len d 0
  by_cases h : (preC 0 d).length ≤ 256
  · rw [if_pos h, h2 h]
    have := (preC_big d 0).1 h
    omega
  · rw [if_neg h]
    have : ¬ d.size ≤ 256 := fun hd => h ((preC_big d 0).2 hd)
    omega
end Go.Proofs.Ytgopamojnoefiaa

namespace Go.Proofs.Ytgopamojnoefiaa
open Go Go.Abs
set_option maxRecDepth 100000
set_option linter.unusedSimpArgs false
set_option linter.unusedVariables false

/-! ### The reference's shape (71) -/
def pSh : List Nat := [1, 1, 0, 1, 0]
theorem lenB (l : List ValD) (c : Nat) : decide (l.length = c) = ((l.length : Int) == (c : Int)) := by rw [beqD, decide_eq_decide]; omega
theorem numB (n : Int) (c : Int) : decide (n = c) = (n == c) := (beqD n c).symm
structure ShE (env : Env) (H : Heap) (d : ValD) (s : Value) (b1 : Nat) : Prop where
  e1 : env.val 1 = .pointer (some ⟨b1, 0, none⟩)
  e4 : env.val 4 = .int .i64 (d.own.length : Int)
  e11 : env.val 11 = .int .i64 d.kind
  g1 : H.get b1 = some (.cells true 3 [.int .i64 d.kind, .int .i64 d.num, s])
  vs : rdVals H s = some d.own

theorem sh_1 {call : CallF} {lf : Nat} {env : Env} {H : Heap} {d : ValD} {s : Value} {b1 : Nat} (E : ShE env H d s b1) (hk : d.kind = 1) : ∃ env', evCode Try.prog call lf 151 none (cAt Try.f71 pSh) env [] H = some (.ret, env', [], H) ∧ env'.val 2 = .bool (shapeL d) := by
  obtain ⟨e1, e4, e11, g1, vs⟩ := E
  rw [hk] at e11
  have l1 : loadA Try.prog 2 H b1 1 = some (.int .i64 d.num) := by simp [loadA, g1]
  have hs : shapeL d = decide (d.num = 0 ∧ (d.own.length : Int) = 0) := by
    unfold shapeL numL valL
    rw [hk]
    rw [Bool.eq_iff_iff]; simp; try omega
  rw [hs]
  generalize (d.own.length : Int) = len at *
  generalize hr : evCode Try.prog call lf 151 none (cAt Try.f71 pSh) env [] H = out
  by_cases h2 : d.num = 0
  · skip
    by_cases h1 : len = 0
    · simp [pSh, Try.f71, e1, e4, e11, l1, h1, h2] at hr
      subst hr
      exact ⟨_, rfl, by simp [h1, h2]⟩
    · simp [undef, pSh, Try.f71, e1, e4, e11, l1, h1, h2] at hr
      subst hr
      exact ⟨_, rfl, by simp [h1, h2]⟩
  · simp [undef, pSh, Try.f71, e1, e4, e11, l1, h2] at hr
    subst hr
    exact ⟨_, rfl, by simp [h2]⟩

theorem sh_2 {call : CallF} {lf : Nat} {env : Env} {H : Heap} {d : ValD} {s : Value} {b1 : Nat} (E : ShE env H d s b1) (hk : d.kind = 2) : ∃ env', evCode Try.prog call lf 151 none (cAt Try.f71 pSh) env [] H = some (.ret, env', [], H) ∧ env'.val 2 = .bool (shapeL d) := by
  obtain ⟨e1, e4, e11, g1, vs⟩ := E
  rw [hk] at e11
  have l1 : loadA Try.prog 2 H b1 1 = some (.int .i64 d.num) := by simp [loadA, g1]
  have hs : shapeL d = decide ((d.own.length : Int) = 0) := by
    unfold shapeL numL valL
    rw [hk]
    rw [Bool.eq_iff_iff]; simp; try omega
  rw [hs]
  generalize (d.own.length : Int) = len at *
  generalize hr : evCode Try.prog call lf 151 none (cAt Try.f71 pSh) env [] H = out
  by_cases h1 : len = 0
  · simp [pSh, Try.f71, e1, e4, e11, l1, h1] at hr
    subst hr
    exact ⟨_, rfl, by simp [h1]⟩
  · simp [undef, pSh, Try.f71, e1, e4, e11, l1, h1] at hr
    subst hr
    exact ⟨_, rfl, by simp [h1]⟩

theorem sh_3 {call : CallF} {lf : Nat} {env : Env} {H : Heap} {d : ValD} {s : Value} {b1 : Nat} (E : ShE env H d s b1) (hk : d.kind = 3) : ∃ env', evCode Try.prog call lf 151 none (cAt Try.f71 pSh) env [] H = some (.ret, env', [], H) ∧ env'.val 2 = .bool (shapeL d) := by
  obtain ⟨e1, e4, e11, g1, vs⟩ := E
  rw [hk] at e11
  have l1 : loadA Try.prog 2 H b1 1 = some (.int .i64 d.num) := by simp [loadA, g1]
  have hs : shapeL d = decide (d.num = 0 ∧ (d.own.length : Int) = 2) := by
    unfold shapeL numL valL
    rw [hk]
    rw [Bool.eq_iff_iff]; simp; try omega
  rw [hs]
  generalize (d.own.length : Int) = len at *
  generalize hr : evCode Try.prog call lf 151 none (cAt Try.f71 pSh) env [] H = out
  by_cases h2 : d.num = 0
  · skip
    by_cases h1 : len = 2
    · simp [pSh, Try.f71, e1, e4, e11, l1, h1, h2] at hr
      subst hr
      exact ⟨_, rfl, by simp [h1, h2]⟩
    · simp [undef, pSh, Try.f71, e1, e4, e11, l1, h1, h2] at hr
      subst hr
      exact ⟨_, rfl, by simp [h1, h2]⟩
  · simp [undef, pSh, Try.f71, e1, e4, e11, l1, h2] at hr
    subst hr
    exact ⟨_, rfl, by simp [h2]⟩

theorem sh_4 {call : CallF} {lf : Nat} {env : Env} {H : Heap} {d : ValD} {s : Value} {b1 : Nat} (E : ShE env H d s b1) (hk : d.kind = 4) : ∃ env', evCode Try.prog call lf 151 none (cAt Try.f71 pSh) env [] H = some (.ret, env', [], H) ∧ env'.val 2 = .bool (shapeL d) := by
  obtain ⟨e1, e4, e11, g1, vs⟩ := E
  rw [hk] at e11
  have l1 : loadA Try.prog 2 H b1 1 = some (.int .i64 d.num) := by simp [loadA, g1]
  have hs : shapeL d = decide (0 ≤ d.num ∧ (d.own.length : Int) = 0) := by
    unfold shapeL numL valL
    rw [hk]
    rw [Bool.eq_iff_iff]; simp; try omega
  rw [hs]
  generalize (d.own.length : Int) = len at *
  generalize hr : evCode Try.prog call lf 151 none (cAt Try.f71 pSh) env [] H = out
  by_cases h2 : 0 ≤ d.num
  · skip
    by_cases h1 : len = 0
    · simp [pSh, Try.f71, e1, e4, e11, l1, h1, h2] at hr
      subst hr
      exact ⟨_, rfl, by simp [h1, h2]⟩
    · simp [undef, pSh, Try.f71, e1, e4, e11, l1, h1, h2] at hr
      subst hr
      exact ⟨_, rfl, by simp [h1, h2]⟩
  · simp [undef, pSh, Try.f71, e1, e4, e11, l1, h2] at hr
    subst hr
    exact ⟨_, rfl, by simp [h2]⟩

theorem sh_7 {call : CallF} {lf : Nat} {env : Env} {H : Heap} {d : ValD} {s : Value} {b1 : Nat} (E : ShE env H d s b1) (hk : d.kind = 7) : ∃ env', evCode Try.prog call lf 151 none (cAt Try.f71 pSh) env [] H = some (.ret, env', [], H) ∧ env'.val 2 = .bool (shapeL d) := by
  obtain ⟨e1, e4, e11, g1, vs⟩ := E
  rw [hk] at e11
  have l1 : loadA Try.prog 2 H b1 1 = some (.int .i64 d.num) := by simp [loadA, g1]
  have hs : shapeL d = decide (d.num = 0 ∧ (d.own.length : Int) = 1) := by
    unfold shapeL numL valL
    rw [hk]
    rw [Bool.eq_iff_iff]; simp; try omega
  rw [hs]
  generalize (d.own.length : Int) = len at *
  generalize hr : evCode Try.prog call lf 151 none (cAt Try.f71 pSh) env [] H = out
  by_cases h2 : d.num = 0
  · skip
    by_cases h1 : len = 1
    · simp [pSh, Try.f71, e1, e4, e11, l1, h1, h2] at hr
      subst hr
      exact ⟨_, rfl, by simp [h1, h2]⟩
    · simp [undef, pSh, Try.f71, e1, e4, e11, l1, h1, h2] at hr
      subst hr
      exact ⟨_, rfl, by simp [h1, h2]⟩
  · simp [undef, pSh, Try.f71, e1, e4, e11, l1, h2] at hr
    subst hr
    exact ⟨_, rfl, by simp [h2]⟩

theorem sh_8 {call : CallF} {lf : Nat} {env : Env} {H : Heap} {d : ValD} {s : Value} {b1 : Nat} (E : ShE env H d s b1) (hk : d.kind = 8) : ∃ env', evCode Try.prog call lf 151 none (cAt Try.f71 pSh) env [] H = some (.ret, env', [], H) ∧ env'.val 2 = .bool (shapeL d) := by
  obtain ⟨e1, e4, e11, g1, vs⟩ := E
  rw [hk] at e11
  have l1 : loadA Try.prog 2 H b1 1 = some (.int .i64 d.num) := by simp [loadA, g1]
  have hs : shapeL d = decide (d.num = 0 ∧ (d.own.length : Int) = 0) := by
    unfold shapeL numL valL
    rw [hk]
    rw [Bool.eq_iff_iff]; simp; try omega
  rw [hs]
  generalize (d.own.length : Int) = len at *
  generalize hr : evCode Try.prog call lf 151 none (cAt Try.f71 pSh) env [] H = out
  by_cases h2 : d.num = 0
  · skip
    by_cases h1 : len = 0
    · simp [pSh, Try.f71, e1, e4, e11, l1, h1, h2] at hr
      subst hr
      exact ⟨_, rfl, by simp [h1, h2]⟩
    · simp [undef, pSh, Try.f71, e1, e4, e11, l1, h1, h2] at hr
      subst hr
      exact ⟨_, rfl, by simp [h1, h2]⟩
  · simp [undef, pSh, Try.f71, e1, e4, e11, l1, h2] at hr
    subst hr
    exact ⟨_, rfl, by simp [h2]⟩

theorem sh_11 {call : CallF} {lf : Nat} {env : Env} {H : Heap} {d : ValD} {s : Value} {b1 : Nat} (E : ShE env H d s b1) (hk : d.kind = 11) : ∃ env', evCode Try.prog call lf 151 none (cAt Try.f71 pSh) env [] H = some (.ret, env', [], H) ∧ env'.val 2 = .bool (shapeL d) := by
  obtain ⟨e1, e4, e11, g1, vs⟩ := E
  rw [hk] at e11
  have l1 : loadA Try.prog 2 H b1 1 = some (.int .i64 d.num) := by simp [loadA, g1]
  have hs : shapeL d = decide (0 ≤ d.num ∧ d.num ≤ 63 ∧ (d.own.length : Int) ≤ 8) := by
    unfold shapeL numL valL
    rw [hk]
    rw [Bool.eq_iff_iff]; simp; try omega
  rw [hs]
  generalize (d.own.length : Int) = len at *
  generalize hr : evCode Try.prog call lf 151 none (cAt Try.f71 pSh) env [] H = out
  by_cases h3 : 0 ≤ d.num
  · skip
    by_cases h2 : d.num ≤ 63
    · skip
      by_cases h1 : len ≤ 8
      · simp [pSh, Try.f71, e1, e4, e11, l1, h1, h2, h3] at hr
        subst hr
        exact ⟨_, rfl, by simp [h1, h2, h3]⟩
      · simp [undef, pSh, Try.f71, e1, e4, e11, l1, h1, h2, h3] at hr
        subst hr
        exact ⟨_, rfl, by simp [h1, h2, h3]⟩
    · simp [undef, pSh, Try.f71, e1, e4, e11, l1, h2, h3] at hr
      subst hr
      exact ⟨_, rfl, by simp [h2, h3]⟩
  · simp [undef, pSh, Try.f71, e1, e4, e11, l1, h3] at hr
    subst hr
    exact ⟨_, rfl, by simp [h3]⟩

theorem sh_12 {call : CallF} {lf : Nat} {env : Env} {H : Heap} {d : ValD} {s : Value} {b1 : Nat} (E : ShE env H d s b1) (hk : d.kind = 12) : ∃ env', evCode Try.prog call lf 151 none (cAt Try.f71 pSh) env [] H = some (.ret, env', [], H) ∧ env'.val 2 = .bool (shapeL d) := by
  obtain ⟨e1, e4, e11, g1, vs⟩ := E
  rw [hk] at e11
  have l1 : loadA Try.prog 2 H b1 1 = some (.int .i64 d.num) := by simp [loadA, g1]
  have hs : shapeL d = decide (0 ≤ d.num ∧ d.num ≤ 63 ∧ (d.own.length : Int) ≤ 8) := by
    unfold shapeL numL valL
    rw [hk]
    rw [Bool.eq_iff_iff]; simp; try omega
  rw [hs]
  generalize (d.own.length : Int) = len at *
  generalize hr : evCode Try.prog call lf 151 none (cAt Try.f71 pSh) env [] H = out
  by_cases h3 : 0 ≤ d.num
  · skip
    by_cases h2 : d.num ≤ 63
    · skip
      by_cases h1 : len ≤ 8
      · simp [pSh, Try.f71, e1, e4, e11, l1, h1, h2, h3] at hr
        subst hr
        exact ⟨_, rfl, by simp [h1, h2, h3]⟩
      · simp [undef, pSh, Try.f71, e1, e4, e11, l1, h1, h2, h3] at hr
        subst hr
        exact ⟨_, rfl, by simp [h1, h2, h3]⟩
    · simp [undef, pSh, Try.f71, e1, e4, e11, l1, h2, h3] at hr
      subst hr
      exact ⟨_, rfl, by simp [h2, h3]⟩
  · simp [undef, pSh, Try.f71, e1, e4, e11, l1, h3] at hr
    subst hr
    exact ⟨_, rfl, by simp [h3]⟩

theorem sh_13 {call : CallF} {lf : Nat} {env : Env} {H : Heap} {d : ValD} {s : Value} {b1 : Nat} (E : ShE env H d s b1) (hk : d.kind = 13) : ∃ env', evCode Try.prog call lf 151 none (cAt Try.f71 pSh) env [] H = some (.ret, env', [], H) ∧ env'.val 2 = .bool (shapeL d) := by
  obtain ⟨e1, e4, e11, g1, vs⟩ := E
  rw [hk] at e11
  have l1 : loadA Try.prog 2 H b1 1 = some (.int .i64 d.num) := by simp [loadA, g1]
  have hs : shapeL d = decide (0 ≤ d.num ∧ (d.own.length : Int) = 0) := by
    unfold shapeL numL valL
    rw [hk]
    rw [Bool.eq_iff_iff]; simp; try omega
  rw [hs]
  generalize (d.own.length : Int) = len at *
  generalize hr : evCode Try.prog call lf 151 none (cAt Try.f71 pSh) env [] H = out
  by_cases h2 : 0 ≤ d.num
  · skip
    by_cases h1 : len = 0
    · simp [pSh, Try.f71, e1, e4, e11, l1, h1, h2] at hr
      subst hr
      exact ⟨_, rfl, by simp [h1, h2]⟩
    · simp [undef, pSh, Try.f71, e1, e4, e11, l1, h1, h2] at hr
      subst hr
      exact ⟨_, rfl, by simp [h1, h2]⟩
  · simp [undef, pSh, Try.f71, e1, e4, e11, l1, h2] at hr
    subst hr
    exact ⟨_, rfl, by simp [h2]⟩
end Go.Proofs.Ytgopamojnoefiaa

namespace Go.Proofs.Ytgopamojnoefiaa
open Go Go.Abs
set_option maxRecDepth 100000
set_option linter.unusedSimpArgs false
set_option linter.unusedVariables false

theorem sh_5 {call : CallF} {lf : Nat} {env : Env} {H : Heap} {d : ValD} {s : Value} {b1 : Nat} (E : ShE env H d s b1) (hk : d.kind = 5) : ∃ env', evCode Try.prog call lf 151 none (cAt Try.f71 pSh) env [] H = some (.ret, env', [], H) ∧ env'.val 2 = .bool (shapeL d) := by
  obtain ⟨e1, e4, e11, g1, vs⟩ := E
  rw [hk] at e11
  have l1 : loadA Try.prog 2 H b1 1 = some (.int .i64 d.num) := by simp [loadA, g1]
  have l2 : loadA Try.prog 23 H b1 2 = some s := by simp [loadA, g1]
  have hs : shapeL d = (decide (d.num = 0) && chanL 2 d.own) := by
    unfold shapeL numL valL
    rw [hk]
    simp
  rw [hs]
  generalize hr : evCode Try.prog call lf 151 none (cAt Try.f71 pSh) env [] H = out
  by_cases h0 : d.num = 0
  · by_cases h2 : d.own.length = 2
    · obtain ⟨a, b, hl⟩ : ∃ a b, d.own = [a, b] := by
        match hd : d.own, h2 with
        | [a, b], _ => exact ⟨a, b, rfl⟩
      rw [hl] at e4 vs
      obtain ⟨s', ix, l0, _⟩ := rdVals_at vs (i := 0) rfl
      simp at ix l0 e4
      rw [hl]
      simp [pSh, Try.f71, e1, e4, e11, l1, l2, h0, ix, l0] at hr
      subst hr
      exact ⟨_, rfl, by simp [h0, chanL, beqD]⟩
    · have h2' : ¬ (d.own.length : Int) = 2 := by omega
      have hc : chanL 2 d.own = false := by unfold chanL; rw [decide_eq_false h2]; rfl
      simp [undef, pSh, Try.f71, e1, e4, e11, l1, h0, h2'] at hr
      subst hr
      exact ⟨_, rfl, by simp [hc]⟩
  · simp [undef, pSh, Try.f71, e1, e4, e11, l1, h0] at hr
    subst hr
    exact ⟨_, rfl, by simp [h0]⟩
theorem sh_6 {call : CallF} {lf : Nat} {env : Env} {H : Heap} {d : ValD} {s : Value} {b1 : Nat} (E : ShE env H d s b1) (hk : d.kind = 6) : ∃ env', evCode Try.prog call lf 151 none (cAt Try.f71 pSh) env [] H = some (.ret, env', [], H) ∧ env'.val 2 = .bool (shapeL d) := by
  obtain ⟨e1, e4, e11, g1, vs⟩ := E
  rw [hk] at e11
  have l1 : loadA Try.prog 2 H b1 1 = some (.int .i64 d.num) := by simp [loadA, g1]
  have l2 : loadA Try.prog 23 H b1 2 = some s := by simp [loadA, g1]
  have hs : shapeL d = (decide (d.num = 0) && chanL 1 d.own) := by
    unfold shapeL numL valL
    rw [hk]
    simp
  rw [hs]
  generalize hr : evCode Try.prog call lf 151 none (cAt Try.f71 pSh) env [] H = out
  by_cases h0 : d.num = 0
  · by_cases h2 : d.own.length = 1
    · obtain ⟨a, hl⟩ : ∃ a, d.own = [a] := by
        match hd : d.own, h2 with
        | [a], _ => exact ⟨a, rfl⟩
      rw [hl] at e4 vs
      obtain ⟨s', ix, l0, _⟩ := rdVals_at vs (i := 0) rfl
      simp at ix l0 e4
      rw [hl]
      simp [pSh, Try.f71, e1, e4, e11, l1, l2, h0, ix, l0] at hr
      subst hr
      exact ⟨_, rfl, by simp [h0, chanL, beqD]⟩
    · have h2' : ¬ (d.own.length : Int) = 1 := by omega
      have hc : chanL 1 d.own = false := by unfold chanL; rw [decide_eq_false h2]; rfl
      simp [undef, pSh, Try.f71, e1, e4, e11, l1, h0, h2'] at hr
      subst hr
      exact ⟨_, rfl, by simp [hc]⟩
  · simp [undef, pSh, Try.f71, e1, e4, e11, l1, h0] at hr
    subst hr
    exact ⟨_, rfl, by simp [h0]⟩
theorem refEvent_hit {H : Heap} {n : Int} : callOf [refEventC] (.fn 52 [.int .i64 n]) H = some (.ret (.bool (isEv n)), H) := callOf_hit rfl rfl
theorem sh_10 {lf : Nat} {env : Env} {H : Heap} {d : ValD} {s : Value} {b1 : Nat} (E : ShE env H d s b1) (hk : d.kind = 10) : ∃ env', evCode Try.prog (callOf [refEventC]) lf 151 none (cAt Try.f71 pSh) env [] H = some (.ret, env', [], H) ∧ env'.val 2 = .bool (shapeL d) := by
  obtain ⟨e1, e4, e11, g1, vs⟩ := E
  rw [hk] at e11
  have l1 : loadA Try.prog 2 H b1 1 = some (.int .i64 d.num) := by simp [loadA, g1]
  have l2 : loadA Try.prog 23 H b1 2 = some s := by simp [loadA, g1]
  have hs : shapeL d = (decide (0 ≤ d.num ∧ d.num < 64) && wrapL d.own) := by
    unfold shapeL numL valL
    rw [hk]
    simp
  rw [hs]
  have hc := fun (n : Int) => refEvent_hit (H := H) (n := n)
  generalize callOf [refEventC] = call at hc
  generalize hr : evCode Try.prog call lf 151 none (cAt Try.f71 pSh) env [] H = out
  by_cases h0 : 0 ≤ d.num
  · by_cases h1 : d.num ≤ 63
    · have h1' : d.num < 64 := by omega
      match hd : d.own with
      | [] =>
        rw [hd] at e4
        simp at e4
        simp [undef, pSh, Try.f71, e1, e4, e11, l1, h0, h1] at hr
        subst hr
        exact ⟨_, rfl, by simp [wrapL]⟩
      | a :: l =>
        rw [hd] at e4 vs
        obtain ⟨s', ix, l0, _⟩ := rdVals_at vs (i := 0) rfl
        simp only [List.length_cons, Int.natCast_add, Int.natCast_one] at e4
        simp at ix l0
        have g1' : (1 : Int) ≤ (l.length : Int) + 1 := by omega
        by_cases h9 : l.length ≤ 8
        · have h9' : (l.length : Int) + 1 ≤ 9 := by omega
          simp [pSh, Try.f71, e1, e4, e11, l1, l2, h0, h1, g1', h9', ix, l0, callA, hc] at hr
          subst hr
          exact ⟨_, rfl, by simp [wrapL, h0, h1', h9]⟩
        · have h9' : ¬ (l.length : Int) + 1 ≤ 9 := by omega
          simp [undef, pSh, Try.f71, e1, e4, e11, l1, h0, h1, g1', h9'] at hr
          subst hr
          exact ⟨_, rfl, by simp [wrapL, h9]⟩
    · have h1' : ¬ d.num < 64 := by omega
      simp [undef, pSh, Try.f71, e1, e4, e11, l1, h0, h1] at hr
      subst hr
      exact ⟨_, rfl, by simp [h1']⟩
  · simp [undef, pSh, Try.f71, e1, e4, e11, l1, h0] at hr
    subst hr
    exact ⟨_, rfl, by simp [h0]⟩
theorem sh_not {call : CallF} {lf : Nat} {env : Env} {H : Heap} {d : ValD} {s : Value} {b1 : Nat} (E : ShE env H d s b1) (hk : d.kind ≤ 0 ∨ 14 ≤ d.kind) : ∃ env', evCode Try.prog call lf 151 none (cAt Try.f71 pSh) env [] H = some (.normal, env', [], H) ∧ shapeL d = false := by
  obtain ⟨e1, e4, e11, g1, vs⟩ := E
  have hs : shapeL d = false := by
    unfold shapeL
    by_cases h : 0 ≤ d.kind ∧ d.kind < 14
    · have : d.kind = 0 := by omega
      rw [this]
      simp [valL]
    · rw [decide_eq_false h]; rfl
  have n1 : (d.kind == 1) = false := beqF (by omega)
  have n2 : (d.kind == 2) = false := beqF (by omega)
  have n3 : (d.kind == 3) = false := beqF (by omega)
  have n4 : (d.kind == 4) = false := beqF (by omega)
  have n5 : (d.kind == 5) = false := beqF (by omega)
  have n6 : (d.kind == 6) = false := beqF (by omega)
  have n7 : (d.kind == 7) = false := beqF (by omega)
  have n8 : (d.kind == 8) = false := beqF (by omega)
  have n9 : (d.kind == 9) = false := beqF (by omega)
  have n10 : (d.kind == 10) = false := beqF (by omega)
  have n11 : (d.kind == 11) = false := beqF (by omega)
  have n12 : (d.kind == 12) = false := beqF (by omega)
  have n13 : (d.kind == 13) = false := beqF (by omega)
  generalize hr : evCode Try.prog call lf 151 none (cAt Try.f71 pSh) env [] H = out
  simp [pSh, Try.f71, e11, n1, n2, n3, n4, n5, n6, n7, n8, n9, n10, n11, n12, n13, -beq_eq_false_iff_ne] at hr
  subst hr
  exact ⟨_, rfl, hs⟩

/-! kind 9: a loop -/
def pS9 : List Nat := pSh ++ [1, 1, 1, 1, 1, 1, 1, 1, 0, 0]
end Go.Proofs.Ytgopamojnoefiaa

namespace Go.Proofs.Ytgopamojnoefiaa
open Go Go.Abs
set_option maxRecDepth 100000
set_option linter.unusedSimpArgs false
set_option linter.unusedVariables false

def pS9b : List Nat := pSh ++ [1, 1, 1, 1, 1, 1, 1, 1, 1, 1, 1, 1, 1, 1, 1, 0, 0, 1, 0, 0]
theorem s9_exit {call : CallF} {lf : Nat} {env : Env} {H : Heap} {n i : Nat} (e4 : env.val 4 = .int .i64 (n : Int)) (e5 : env.val 5 = .int .i64 (i : Int)) (hi : n ≤ i) :
    ∃ env', evCode Try.prog call lf 151 none (cAt Try.f71 pS9b) env [] H = some (.exit 1, env', [], H) ∧ env'.val 1 = env.val 1 ∧ env'.val 4 = env.val 4 := by
  have c1 : ¬ (i : Int) < (n : Int) := by omega
  generalize hr : evCode Try.prog call lf 151 none (cAt Try.f71 pS9b) env [] H = out
  simp [pS9b, pSh, Try.f71, e4, e5, c1, hi] at hr
  subst hr
  exact ⟨_, rfl, by simp, by simp [e4]⟩
theorem s9_step {lf : Nat} {env : Env} {H : Heap} {b1 i : Nat} {k m : Int} {s : Value} {l : List ValD} {v : ValD} (e1 : env.val 1 = .pointer (some ⟨b1, 0, none⟩)) (e4 : env.val 4 = .int .i64 (l.length : Int)) (e5 : env.val 5 = .int .i64 (i : Int)) (g1 : H.get b1 = some (.cells true 3 [.int .i64 k, .int .i64 m, s])) (vs : rdVals H s = some l) (hv : l[i]? = some v) (hn : l.length < 1099511627776) :
    (isEv v.kind = true → ∃ env', evCode Try.prog (callOf [refEventC]) lf 151 none (cAt Try.f71 pS9b) env [] H = some (.normal, env', [], H) ∧ env'.val 1 = env.val 1 ∧ env'.val 4 = env.val 4 ∧ env'.val 5 = .int .i64 ((i + 1 : Nat) : Int)) ∧
    (isEv v.kind = false → ∃ env', evCode Try.prog (callOf [refEventC]) lf 151 none (cAt Try.f71 pS9b) env [] H = some (.ret, env', [], H) ∧ env'.val 2 = .bool false) := by
  have hi := (List.getElem?_eq_some_iff.1 hv).1
  have c1 : (i : Int) < (l.length : Int) := by omega
  have w1 : IntKind.i64.wrap ((i : Int) + 1) = (i : Int) + 1 := wrapI (by omega) (by omega)
  have l2 : loadA Try.prog 23 H b1 2 = some s := by simp [loadA, g1]
  obtain ⟨s', ix, l0, _⟩ := rdVals_at vs hv
  have hc := refEvent_hit (H := H) (n := v.kind)
  generalize callOf [refEventC] = call at hc
  constructor
  · intro h
    rw [h] at hc
    generalize hr : evCode Try.prog call lf 151 none (cAt Try.f71 pS9b) env [] H = out
    simp [pS9b, pSh, Try.f71, e1, e4, e5, c1, hi, l2, ix, l0, callA, hc, w1] at hr
    subst hr
    exact ⟨_, rfl, by simp [e1], by simp [e4], by simp⟩
  · intro h
    rw [h] at hc
    generalize hr : evCode Try.prog call lf 151 none (cAt Try.f71 pS9b) env [] H = out
    simp [pS9b, pSh, Try.f71, e1, e4, e5, c1, hi, l2, ix, l0, callA, hc] at hr
    subst hr
    exact ⟨_, rfl, by simp⟩
theorem s9_loop {lf : Nat} {H : Heap} {b1 : Nat} {k m0 : Int} {s : Value} {l : List ValD} (g1 : H.get b1 = some (.cells true 3 [.int .i64 k, .int .i64 m0, s])) (vs : rdVals H s = some l) (hn : l.length < 1099511627776) :
    ∀ (d i m : Nat) (env : Env), d < m → l.length = i + d → env.val 1 = .pointer (some ⟨b1, 0, none⟩) → env.val 4 = .int .i64 (l.length : Int) → env.val 5 = .int .i64 (i : Int) →
    ((l.drop i).all (fun v => isEv v.kind) = true → ∃ env', evLoop Try.prog (callOf [refEventC]) lf 151 none (cAt Try.f71 pS9b) m env [] H = some (.exit 1, env', [], H) ∧ env'.val 1 = env.val 1 ∧ env'.val 4 = env.val 4) ∧
    ((l.drop i).all (fun v => isEv v.kind) = false → ∃ env', evLoop Try.prog (callOf [refEventC]) lf 151 none (cAt Try.f71 pS9b) m env [] H = some (.ret, env', [], H) ∧ env'.val 2 = .bool false)
  | d, i, 0, env, hm, _, _, _, _ => by omega
  | 0, i, m + 1, env, hm, hd, e1, e4, e5 => by
    obtain ⟨env', he, u1, u4⟩ := s9_exit (call := callOf [refEventC]) (lf := lf) (H := H) e4 e5 (by omega)
    simp only [evLoop_succ, he]
    rw [List.drop_eq_nil_of_le (by omega)]
    exact ⟨fun _ => ⟨env', rfl, u1, u4⟩, fun h => by simp at h⟩
  | d + 1, i, m + 1, env, hm, hd, e1, e4, e5 => by
    have hx := List.getElem?_eq_getElem (l := l) (i := i) (by omega)
    have hdr := List.drop_eq_getElem_cons (l := l) (i := i) (by omega)
    obtain ⟨q1, q2⟩ := s9_step (lf := lf) e1 e4 e5 g1 vs hx hn
    rw [hdr, List.all_cons]
    cases h : isEv (l[i]'(by omega)).kind with
    | true =>
      obtain ⟨env', he, u1, u4, u5⟩ := q1 h
      obtain ⟨r1, r2⟩ := s9_loop (lf := lf) g1 vs hn d (i + 1) m env' (by omega) (by omega) (u1.trans e1) (u4.trans e4) u5
      simp only [evLoop_succ, he, Bool.true_and]
      refine ⟨fun ha => ?_, r2⟩
      obtain ⟨e', a, b, c⟩ := r1 ha
      exact ⟨e', a, b.trans u1, c.trans u4⟩
    | false =>
      obtain ⟨env', he, u2⟩ := q2 h
      simp only [evLoop_succ, he, Bool.false_and]
      exact ⟨(fun h => by cases h), fun _ => ⟨env', rfl, u2⟩⟩

theorem sh_9 {lf : Nat} {env : Env} {H : Heap} {d : ValD} {s : Value} {b1 : Nat} (E : ShE env H d s b1) (hk : d.kind = 9) (hlf : d.own.length < lf) (hn : d.own.length < 1099511627776) : ∃ env', evCode Try.prog (callOf [refEventC]) lf 151 none (cAt Try.f71 pSh) env [] H = some (.ret, env', [], H) ∧ env'.val 2 = .bool (shapeL d) := by
  obtain ⟨e1, e4, e11, g1, vs⟩ := E
  rw [hk] at e11
  have l1 : loadA Try.prog 2 H b1 1 = some (.int .i64 d.num) := by simp [loadA, g1]
  have hs : shapeL d = (decide (d.num = 0) && chooseL d.own) := by
    unfold shapeL numL valL
    rw [hk]
    simp
  rw [hs]
  have hloop := s9_loop (lf := lf) g1 vs hn d.own.length 0 lf
  generalize callOf [refEventC] = call at hloop
  generalize hr : evCode Try.prog call lf 151 none (cAt Try.f71 pSh) env [] H = out
  simp [pSh, Try.f71, e11] at hr
  generalize hL : evLoop _ _ _ _ _ _ _ _ _ _ = L at hr
  have aux : ∀ env2, evLoop Try.prog call lf 151 none (cAt Try.f71 pS9b) lf env2 [] H = L → env2.val 1 = .pointer (some ⟨b1, 0, none⟩) → env2.val 4 = .int .i64 (d.own.length : Int) → env2.val 5 = .int .i64 ((0 : Nat) : Int) →
      (d.own.all (fun v => isEv v.kind) = true → ∃ env', L = some (.exit 1, env', [], H) ∧ env'.val 1 = .pointer (some ⟨b1, 0, none⟩) ∧ env'.val 4 = .int .i64 (d.own.length : Int)) ∧ (d.own.all (fun v => isEv v.kind) = false → ∃ env', L = some (.ret, env', [], H) ∧ env'.val 2 = .bool false) := by
    intro env2 hL q1 q4 q5
    have := hloop env2 hlf (by omega) q1 q4 q5
    rw [hL, List.drop_zero] at this
    refine ⟨fun h => ?_, this.2⟩
    obtain ⟨e', a, b, c⟩ := this.1 h
    exact ⟨e', a, b.trans q1, c.trans q4⟩
  obtain ⟨r1, r2⟩ := aux _ hL (by simp [e1]) (by simp [e4]) (by simp)
  cases ha : d.own.all (fun v => isEv v.kind) with
  | true =>
    obtain ⟨e', rfl, u1, u4⟩ := r1 ha
    by_cases h0 : d.num = 0
    · by_cases h16 : d.own.length ≤ 16
      · have h16' : (d.own.length : Int) ≤ 16 := by omega
        simp [u1, u4, l1, h0, h16'] at hr
        subst hr
        exact ⟨_, rfl, by simp [h0, chooseL, ha, h16]⟩
      · have h16' : ¬ (d.own.length : Int) ≤ 16 := by omega
        simp [u1, u4, l1, h0, h16'] at hr
        subst hr
        exact ⟨_, rfl, by simp [h0, chooseL, ha, h16]⟩
    · simp [undef, u1, u4, l1, h0] at hr
      subst hr
      exact ⟨_, rfl, by simp [h0]⟩
  | false =>
    obtain ⟨e', rfl, u2⟩ := r2 ha
    simp at hr
    subst hr
    exact ⟨_, rfl, by rw [u2]; simp [chooseL, ha]⟩

theorem sh_any {lf : Nat} {env : Env} {H : Heap} {d : ValD} {s : Value} {b1 : Nat} (E : ShE env H d s b1) (hlf : d.own.length < lf) (hn : d.own.length < 1099511627776) :
    (∃ env', evCode Try.prog (callOf [refEventC]) lf 151 none (cAt Try.f71 pSh) env [] H = some (.ret, env', [], H) ∧ env'.val 2 = .bool (shapeL d)) ∨ ∃ env', evCode Try.prog (callOf [refEventC]) lf 151 none (cAt Try.f71 pSh) env [] H = some (.normal, env', [], H) ∧ shapeL d = false := by
  have h : d.kind = 1 ∨ d.kind = 2 ∨ d.kind = 3 ∨ d.kind = 4 ∨ d.kind = 5 ∨ d.kind = 6 ∨ d.kind = 7 ∨ d.kind = 8 ∨ d.kind = 9 ∨ d.kind = 10 ∨ d.kind = 11 ∨ d.kind = 12 ∨ d.kind = 13 ∨ (d.kind ≤ 0 ∨ 14 ≤ d.kind) := by omega
  rcases h with h | h | h | h | h | h | h | h | h | h | h | h | h | h
  · exact .inl (sh_1 E h)
  · exact .inl (sh_2 E h)
  · exact .inl (sh_3 E h)
  · exact .inl (sh_4 E h)
  · exact .inl (sh_5 E h)
  · exact .inl (sh_6 E h)
  · exact .inl (sh_7 E h)
  · exact .inl (sh_8 E h)
  · exact .inl (sh_9 E h hlf hn)
  · exact .inl (sh_10 E h)
  · exact .inl (sh_11 E h)
  · exact .inl (sh_12 E h)
  · exact .inl (sh_13 E h)
  · exact .inr (sh_not E h)

/-- shape. -/
theorem shape_run {lf : Nat} {H : Heap} {v : Value} {d : ValD} (hw : H.Wf) (hv : rdVal H v = some d) (hlf : d.own.length < lf) (hn : d.own.length < 1099511627776) :
    ∃ H', evFn Try.prog (callOf [refEventC]) lf 71 [v] H = some (.ret (.bool (shapeL d)), H') ∧ Kept H H' none := by
  obtain ⟨s, hs0, hvs0⟩ := rdVals_own hv
  obtain ⟨s', xs, rfl, h1, h2, h3, hva, sc, os, _⟩ := rdVal_cells hv
  have hss : s' = s := by simpa using hs0
  subst hss
  have k1 := (Kept.refl hw none).push (.cells true 3 [.int .i64 d.kind, .int .i64 d.num, s'])
  have g1 := get_push_self H (.cells true 3 [.int .i64 d.kind, .int .i64 d.num, s'])
  have hvs := rdVals_ext (k1.ext hw) hvs0
  have hl := rdVals_len hvs 23 Try.underlying23
  have oe := (rdVals_one hvs).2.2
  generalize hH : H.push (.cells true 3 [.int .i64 d.kind, .int .i64 d.num, s']) = H1 at *
  have l0 : loadA Try.prog 22 H1 H.next 0 = some (.int .i64 d.kind) := by simp [loadA, g1]
  have l2 : loadA Try.prog 23 H1 H.next 2 = some s' := by simp [loadA, g1]
  have r0 : ∃ e, evCode Try.prog (callOf [refEventC]) lf 151 none (cAt Try.f71 [0]) (envOf 0 [.agg #[.int .i64 d.kind, .int .i64 d.num, s']] .nil) [] H = some (.normal, e, [], H1) ∧ e.val 1 = .pointer (some ⟨H.next, 0, none⟩) := by
    generalize hr : evCode Try.prog (callOf [refEventC]) lf 151 none (cAt Try.f71 [0]) (envOf 0 [.agg #[.int .i64 d.kind, .int .i64 d.num, s']] .nil) [] H = out
    simp [Try.f71, os, hH] at hr
    subst hr
    exact ⟨_, rfl, by simp⟩
  obtain ⟨e, r0, v1⟩ := r0
  have r1 : ∃ e', evCode Try.prog (callOf [refEventC]) lf 151 none (cAt Try.f71 [1, 0]) e [] H1 = some (.normal, e', [], H1) ∧ e'.val 1 = .pointer (some ⟨H.next, 0, none⟩) ∧ e'.val 3 = .int .i64 d.kind ∧ e'.val 4 = .int .i64 (d.own.length : Int) := by
    generalize hr : evCode Try.prog (callOf [refEventC]) lf 151 none (cAt Try.f71 [1, 0]) e [] H1 = out
    simp [Try.f71] at hr
    rw [evDraw_tab (tab := [])] at hr
    · simp [v1, l0, l2, hl, oe] at hr
      subst hr
      exact ⟨_, rfl, by simp [v1], by simp, by simp⟩
    · kernel_rfl
    · kernel_rfl
  obtain ⟨e1, r1, w1, w3, w4⟩ := r1
  have r2 : ∃ e', evCode Try.prog (callOf [refEventC]) lf 151 none (cAt Try.f71 [1, 1, 0, 0]) e1 [] H1 = some (.normal, e', [], H1) ∧ e'.val 1 = .pointer (some ⟨H.next, 0, none⟩) ∧ e'.val 4 = .int .i64 (d.own.length : Int) ∧ e'.val 11 = .int .i64 d.kind := by
    generalize hr : evCode Try.prog (callOf [refEventC]) lf 151 none (cAt Try.f71 [1, 1, 0, 0]) e1 [] H1 = out
    simp [Try.f71, w3] at hr
    subst hr
    exact ⟨_, rfl, by simp [w1], by simp [w4], by simp⟩
  obtain ⟨e2, r2, x1, x4, x11⟩ := r2
  refine ⟨H1, ?_, k1⟩
  have hfn : ∀ {out}, evCode Try.prog (callOf [refEventC]) lf 151 none (cAt Try.f71 [1, 1]) e1 [] H1 = out → evFn Try.prog (callOf [refEventC]) lf 71 [.agg #[.int .i64 d.kind, .int .i64 d.num, s']] H = fnEnd Try.prog (callOf [refEventC]) lf Try.f71 out := fun h => by
    rw [evFn_at Try.func71 body71 (by simp), Try.ntmps71, ev_then (c := cAt Try.f71 []) (b := cAt Try.f71 [1]) rfl r0, ev_then (c := cAt Try.f71 [1]) (b := cAt Try.f71 [1, 1]) rfl r1, h]
  rcases sh_any (lf := lf) ⟨x1, x4, x11, g1, hvs⟩ hlf hn with ⟨e3, r3, u2⟩ | ⟨e3, r3, hf⟩
  · have hb : evCode Try.prog (callOf [refEventC]) lf 151 none (cAt Try.f71 [1, 1, 0]) e1 [] H1 = some (.ret, e3, [], H1) := by
      rw [ev_then (c := cAt Try.f71 [1, 1, 0]) (b := cAt Try.f71 [1, 1, 0, 1]) rfl r2, show cAt Try.f71 [1, 1, 0, 1] = .block 0 (cAt Try.f71 pSh) from rfl, evCode_block, r3]
    refine (hfn (out := some (.ret, e3, [], H1)) (ev_stop (c := cAt Try.f71 [1, 1]) (a := cAt Try.f71 [1, 1, 0]) (b := cAt Try.f71 [1, 1, 1]) rfl hb (by intro e; cases e))).trans ?_
    simp [fnEnd, Try.f71, u2]
  · have hb : evCode Try.prog (callOf [refEventC]) lf 151 none (cAt Try.f71 [1, 1, 0]) e1 [] H1 = some (.normal, e3, [], H1) := by
      rw [ev_then (c := cAt Try.f71 [1, 1, 0]) (b := cAt Try.f71 [1, 1, 0, 1]) rfl r2, show cAt Try.f71 [1, 1, 0, 1] = .block 0 (cAt Try.f71 pSh) from rfl, evCode_block, r3]
    have r4 : ∃ e', evCode Try.prog (callOf [refEventC]) lf 151 none (cAt Try.f71 [1, 1, 1]) e3 [] H1 = some (.ret, e', [], H1) ∧ e'.val 2 = .bool false := by
      generalize hr : evCode Try.prog (callOf [refEventC]) lf 151 none (cAt Try.f71 [1, 1, 1]) e3 [] H1 = out
      simp [Try.f71] at hr
      subst hr
      exact ⟨_, rfl, by simp⟩
    obtain ⟨e4, r4, u2⟩ := r4
    refine (hfn (out := some (.ret, e4, [], H1)) (by rw [ev_then (c := cAt Try.f71 [1, 1]) (b := cAt Try.f71 [1, 1, 1]) rfl hb, r4])).trans ?_
    rw [hf]
    simp [fnEnd, Try.f71, u2]
noncomputable def shapeC : Contract Try.prog := Contract.plain 71
  (fun args H => match args with
    | [v] => match rdVal H v with
      | some d => if d.size ≤ 1073741824 then some (.ret (.bool (shapeL d))) else none
      | none => none
    | _ => none) (by
    intro args H res hw hr
    split at hr
    · rename_i v
      split at hr
      · rename_i d hd
        split at hr
        · rename_i hb
          simp only [Option.some.injEq] at hr
          subst hr
          have hl : d.own.length < 1099511627776 := by have := ValD.length_sizes d.own; have := ValD.size_eq d; omega
          obtain ⟨H', e, k⟩ := shape_run (lf := d.own.length + 1) hw hd (by omega) hl
          exact ⟨rfl, _, H', callOf_ok _, _, e, k.ext hw⟩
        · cases hr
      · cases hr
    · cases hr)
theorem shape_hit {cs : List (Contract Try.prog)} {H : Heap} {v : Value} {d : ValD} (h : rdVal H v = some d) (hb : d.size ≤ 1073741824) : callOf (shapeC :: cs) (.fn 71 [v]) H = some (.ret (.bool (shapeL d)), H) :=
  callOf_hit rfl (by simp [shapeC, Contract.plain, h, hb])
end Go.Proofs.Ytgopamojnoefiaa

namespace Go.Proofs.Ytgopamojnoefiaa
open Go Go.Abs
set_option maxRecDepth 100000
set_option linter.unusedSimpArgs false
set_option linter.unusedVariables false

/-! ### The reference's shapes (46) -/
mutual
def shapesL : ValD → Bool
  | .mk k n l => shapeL (.mk k n l) && shapesLs l
def shapesLs : List ValD → Bool
  | [] => true
  | v :: l => shapesL v && shapesLs l
end
theorem shapesL_eq (d : ValD) : shapesL d = (shapeL d && shapesLs d.own) := by cases d; simp only [shapesL, ValD.own]
theorem preC_shapes : ∀ (d : ValD) (dp : Nat), d.size ≤ 256 → ((preC dp d).all fun p => shapeL p.2) = shapesL d := by
  intro d
  induction d using ValD.ind with
  | h d ih =>
    intro dp hsz
    have hl := ValD.length_sizes d.own
    have hse := ValD.size_eq d
    rw [preC_eq, List.all_cons, shapesL_eq, List.take_of_length_le (by omega)]
    congr 1
    have key : ∀ (l : List ValD), (∀ w ∈ l, w ∈ d.own) → ((l.flatMap (preC (dp + 1))).all fun p => shapeL p.2) = shapesLs l := by
      intro l
      induction l with
      | nil => intro _; rfl
      | cons v l ihl =>
        intro h
        have hv := h v (by simp)
        rw [List.flatMap_cons, List.all_append, shapesLs, ihl fun w hw => h w (by simp [hw]), ih v hv (dp + 1) (by have := ValD.mem_size hv; omega)]
    exact key d.own fun w hw => hw
theorem rightL_eq (d : ValD) : rightL d = (decide (d.size ≤ 256) && shapesL d) := by
  unfold rightL
  by_cases h : d.size ≤ 256
  · rw [decide_eq_true h, decide_eq_true ((preC_big d 0).2 h), preC_shapes d 0 h]
  · rw [decide_eq_false h, decide_eq_false (fun h' => h ((preC_big d 0).1 h'))]; rfl

def pSs : List Nat := [1, 1, 0, 1, 0, 0]
theorem ss_exit {call : CallF} {lf : Nat} {env : Env} {H : Heap} {b1 i : Nat} {s : Value} {l : List ValD} (e1 : env.val 1 = .pointer (some ⟨b1, 0, none⟩)) (e3 : env.val 3 = .int .i64 (i : Int)) (l2 : loadA Try.prog 23 H b1 2 = some s) (vs : rdVals H s = some l) (hi : l.length ≤ i) :
    ∃ env', evCode Try.prog call lf 21 none (cAt Try.f46 pSs) env [] H = some (.exit 0, env', [], H) := by
  have c1 : ¬ (i : Int) < (l.length : Int) := by omega
  have hl := rdVals_len vs 23 Try.underlying23
  generalize hr : evCode Try.prog call lf 21 none (cAt Try.f46 pSs) env [] H = out
  simp [pSs, Try.f46, e1, e3, l2, hl, c1] at hr
  subst hr
  exact ⟨_, rfl⟩
theorem ss_step {call : CallF} {lf : Nat} {env : Env} {H H' : Heap} {b1 i : Nat} {s s' : Value} {l : List ValD} {v : ValD} {b : Bool} (e1 : env.val 1 = .pointer (some ⟨b1, 0, none⟩)) (e3 : env.val 3 = .int .i64 (i : Int)) (l2 : loadA Try.prog 23 H b1 2 = some s) (vs : rdVals H s = some l) (hv : l[i]? = some v) (hn : l.length < 1099511627776)
    (lv : loadA Try.prog 25 H (blk s) (offs s + i * 3) = some (.agg #[.int .i64 v.kind, .int .i64 v.num, s'])) (hc : call (.fn 46 [.agg #[.int .i64 v.kind, .int .i64 v.num, s']]) H = some (.ret (.bool b), H')) :
    (b = true → ∃ env', evCode Try.prog call lf 21 none (cAt Try.f46 pSs) env [] H = some (.normal, env', [], H') ∧ env'.val 1 = env.val 1 ∧ env'.val 3 = .int .i64 ((i + 1 : Nat) : Int)) ∧
    (b = false → ∃ env', evCode Try.prog call lf 21 none (cAt Try.f46 pSs) env [] H = some (.ret, env', [], H') ∧ env'.val 2 = .bool false) := by
  have hi := (List.getElem?_eq_some_iff.1 hv).1
  have c1 : (i : Int) < (l.length : Int) := by omega
  have w1 : IntKind.i64.wrap ((i : Int) + 1) = (i : Int) + 1 := wrapI (by omega) (by omega)
  have hl := rdVals_len vs 23 Try.underlying23
  obtain ⟨_, ix, _⟩ := rdVals_at vs hv
  constructor
  · rintro rfl
    generalize hr : evCode Try.prog call lf 21 none (cAt Try.f46 pSs) env [] H = out
    simp [pSs, Try.f46, e1, e3, l2, hl, c1, hi, ix, lv, callA, hc, w1] at hr
    subst hr
    exact ⟨_, rfl, by simp [e1], by simp⟩
  · rintro rfl
    generalize hr : evCode Try.prog call lf 21 none (cAt Try.f46 pSs) env [] H = out
    simp [pSs, Try.f46, e1, e3, l2, hl, c1, hi, ix, lv, callA, hc] at hr
    subst hr
    exact ⟨_, rfl, by simp⟩
theorem ss_loop {call : CallF} {lf : Nat} {H0 : Heap} {b1 : Nat} {k m0 : Int} {s : Value} {l : List ValD} (hw0 : H0.Wf) (g1 : H0.get b1 = some (.cells true 3 [.int .i64 k, .int .i64 m0, s])) (os : s.cells = #[s] ∧ oneC s = true) (vs : rdVals H0 s = some l) (hn : l.length < 1099511627776)
    (hcall : ∀ v ∈ l, ∀ (K : Heap) (x : Value), K.Wf → rdVal K x = some v → ∃ K', call (.fn 46 [x]) K = some (.ret (.bool (shapesL v)), K') ∧ Kept K K' none) :
    ∀ (d i m : Nat) (env : Env) (K : Heap), d < m → l.length = i + d → Kept H0 K none → env.val 1 = .pointer (some ⟨b1, 0, none⟩) → env.val 3 = .int .i64 (i : Int) →
    (shapesLs (l.drop i) = true → ∃ env' K', evLoop Try.prog call lf 21 none (cAt Try.f46 pSs) m env [] K = some (.exit 0, env', [], K') ∧ Kept H0 K' none) ∧
    (shapesLs (l.drop i) = false → ∃ env' K', evLoop Try.prog call lf 21 none (cAt Try.f46 pSs) m env [] K = some (.ret, env', [], K') ∧ env'.val 2 = .bool false ∧ Kept H0 K' none)
  | d, i, 0, env, K, hm, _, _, _, _ => by omega
  | 0, i, m + 1, env, K, hm, hd, hk, e1, e3 => by
    have l2 : loadA Try.prog 23 K b1 2 = some s := by simp [loadA, hk.of_get hw0 g1 (by simp), os]
    obtain ⟨env', he⟩ := ss_exit (call := call) (lf := lf) e1 e3 l2 (rdVals_ext (hk.ext hw0) vs) (by omega)
    simp only [evLoop_succ, he]
    rw [List.drop_eq_nil_of_le (by omega)]
    exact ⟨fun _ => ⟨env', K, rfl, hk⟩, (fun h => by cases h)⟩
  | d + 1, i, m + 1, env, K, hm, hd, hk, e1, e3 => by
    have hx := List.getElem?_eq_getElem (l := l) (i := i) (by omega)
    have hdr := List.drop_eq_getElem_cons (l := l) (i := i) (by omega)
    have l2 : loadA Try.prog 23 K b1 2 = some s := by simp [loadA, hk.of_get hw0 g1 (by simp), os]
    have vsK := rdVals_ext (hk.ext hw0) vs
    obtain ⟨s', _, _, lv, hva, _⟩ := rdVals_at vsK hx
    obtain ⟨K', hc, hk'⟩ := hcall _ (List.getElem_mem (l := l) (n := i) (by omega)) K _ hk.wf (rdVal_of hva)
    obtain ⟨q1, q2⟩ := ss_step (lf := lf) e1 e3 l2 vsK hx hn lv hc
    rw [hdr, shapesLs]
    cases h : shapesL (l[i]'(by omega)) with
    | true =>
      obtain ⟨env', he, u1, u3⟩ := q1 h
      have := ss_loop (lf := lf) hw0 g1 os vs hn hcall d (i + 1) m env' K' (by omega) (by omega) (hk.trans hk') (u1.trans e1) u3
      simp only [evLoop_succ, he, Bool.true_and]
      exact this
    | false =>
      obtain ⟨env', he, u2⟩ := q2 h
      simp only [evLoop_succ, he, Bool.false_and]
      exact ⟨(fun h => by cases h), fun _ => ⟨env', K', rfl, u2, hk.trans hk'⟩⟩

theorem with_46 {lf k : Nat} {args : List Value} {H : Heap} : evWith Try.prog lf [shapeC] (k + 1) (.fn 46 args) H = evFn Try.prog (evWith Try.prog lf [shapeC] k) lf 46 args H := by
  have : callOf [shapeC] (.fn 46 args) H = none := by
    rw [callOf_miss (by decide)]
    rfl
  simp only [evWith, this]
  rfl
theorem with_71 {lf k : Nat} {H : Heap} {v : Value} {d : ValD} (h : rdVal H v = some d) (hb : d.size ≤ 1073741824) : evWith Try.prog lf [shapeC] k (.fn 71 [v]) H = some (.ret (.bool (shapeL d)), H) := by
  have := shape_hit (cs := []) h hb
  cases k with
  | zero => exact this
  | succ k => simp only [evWith, this]

theorem shapes_run46 {lf : Nat} (hlf : 300 ≤ lf) : ∀ (k : Nat) (H : Heap) (v : Value) (d : ValD), d.size ≤ k → k ≤ 256 → H.Wf → rdVal H v = some d → ∃ H', evWith Try.prog lf [shapeC] k (.fn 46 [v]) H = some (.ret (.bool (shapesL d)), H') ∧ Kept H H' none
  | 0, H, v, d, hd, _, _, _ => by have := ValD.size_pos d; omega
  | k + 1, H, v, d, hd, hk, hw, hv => by
    rw [with_46]
    obtain ⟨s', hs0, hvs0⟩ := rdVals_own hv
    obtain ⟨s, xs, rfl, h1, h2, h3, hva, sc, os, _⟩ := rdVal_cells hv
    have hss : s = s' := by simpa using hs0
    subst hss
    have hlen := ValD.length_sizes d.own
    have hse := ValD.size_eq d
    have k1 := (Kept.refl hw none).push (.cells true 3 [.int .i64 d.kind, .int .i64 d.num, s])
    have g1 := get_push_self H (.cells true 3 [.int .i64 d.kind, .int .i64 d.num, s])
    have hvs := rdVals_ext (k1.ext hw) hvs0
    have hv1 := rdVal_ext (k1.ext hw) hv
    generalize hH : H.push (.cells true 3 [.int .i64 d.kind, .int .i64 d.num, s]) = H1 at *
    have ld : loadA Try.prog 25 H1 H.next 0 = some (.agg #[.int .i64 d.kind, .int .i64 d.num, s]) := by simp [loadA, g1]
    have c71 := with_71 (lf := lf) (k := k) hv1 (by omega)
    have hloop := ss_loop (call := evWith Try.prog lf [shapeC] k) (lf := lf) k1.wf g1 ⟨sc, os⟩ hvs (by omega) (fun w hwm K x hKw hx => shapes_run46 hlf k K x w (by have := ValD.mem_size hwm; omega) (by omega) hKw hx) d.own.length 0 lf
    generalize evWith Try.prog lf [shapeC] k = call at *
    rw [shapesL_eq]
    generalize hE : evFn Try.prog call lf 46 [.agg #[.int .i64 d.kind, .int .i64 d.num, s]] H = out
    have hr := hE
    cases hsh : shapeL d with
    | false =>
      rw [hsh] at c71
      simp [Try.f46, os, hH, ld, callA, c71] at hr
      exact ⟨H1, by simpa using hr.symm, k1⟩
    | true =>
      rw [hsh] at c71
      simp [Try.f46, os, hH, ld, callA, c71] at hr
      generalize hL : evLoop _ _ _ _ _ _ _ _ _ _ = L at hr
      have aux : ∀ env, evLoop Try.prog call lf 21 none (cAt Try.f46 pSs) lf env [] H1 = L → env.val 1 = .pointer (some ⟨H.next, 0, none⟩) → env.val 3 = .int .i64 ((0 : Nat) : Int) →
          (shapesLs d.own = true → ∃ env' K', L = some (.exit 0, env', [], K') ∧ Kept H1 K' none) ∧ (shapesLs d.own = false → ∃ env' K', L = some (.ret, env', [], K') ∧ env'.val 2 = .bool false ∧ Kept H1 K' none) := by
        intro env hL e1 e3
        have := hloop env H1 (by omega) (by omega) (Kept.refl k1.wf none) e1 e3
        rw [hL, List.drop_zero] at this
        exact this
      obtain ⟨r1, r2⟩ := aux _ hL (by simp) (by simp)
      cases hss : shapesLs d.own with
      | true =>
        obtain ⟨env', K', rfl, kk⟩ := r1 hss
        exact ⟨K', by simpa using hr.symm, k1.trans kk⟩
      | false =>
        obtain ⟨env', K', rfl, u2, kk⟩ := r2 hss
        exact ⟨K', by simpa [u2] using hr.symm, k1.trans kk⟩
end Go.Proofs.Ytgopamojnoefiaa

namespace Go.Proofs.Ytgopamojnoefiaa
open Go Go.Abs
set_option maxRecDepth 100000
set_option linter.unusedSimpArgs false
set_option linter.unusedVariables false

/-! ### The reference's Right (10), IsEvent (16); num (11) -/
noncomputable def call10 : CallF := orC (callOf [refSizeC]) (evWith Try.prog 300 [shapeC] 256)
theorem call10_ok : CallOk Try.prog call10 := orC_ok (callOf_ok _) (evWith_ok _ _ _)
noncomputable def refRightC : Contract Try.prog := Contract.plain 10
  (fun args H => match args with
    | [v] => match rdVal H v with
      | some d => if d.size ≤ 1073741824 then some (.ret (.bool (rightL d))) else none
      | none => none
    | _ => none) (by
    intro args H res hw hr
    split at hr
    · rename_i v
      split at hr
      · rename_i d hd
        split at hr
        · rename_i hb
          simp only [Option.some.injEq] at hr
          subst hr
          obtain ⟨s, xs, rfl, h1, h2, h3, hva, sc, os, _⟩ := rdVal_cells hd
          have k1 := (Kept.refl hw none).push (.cells true 3 [.int .i64 d.kind, .int .i64 d.num, s])
          have ld : loadA Try.prog 25 (H.push (.cells true 3 [.int .i64 d.kind, .int .i64 d.num, s])) H.next 0 = some (.agg #[.int .i64 d.kind, .int .i64 d.num, s]) := by simp [loadA, get_push_self]
          have hd1 := rdVal_ext (k1.ext hw) hd
          generalize hH : H.push (.cells true 3 [.int .i64 d.kind, .int .i64 d.num, s]) = H1 at *
          have c14 : call10 (.fn 14 [.agg #[.int .i64 d.kind, .int .i64 d.num, s]]) H1 = some (.ret (.int .i64 (refSize d)), H1) := orC_hit (refSize_hit hd1 hb)
          rw [rightL_eq]
          by_cases hle : d.size ≤ 256
          · obtain ⟨H', c46, k2⟩ := shapes_run46 (lf := 300) (by omega) 256 H1 _ d hle (Nat.le_refl _) k1.wf hd1
            have c46' : call10 (.fn 46 [.agg #[.int .i64 d.kind, .int .i64 d.num, s]]) H1 = some (.ret (.bool (shapesL d)), H') := (orC_miss (by rw [callOf_miss (by decide)]; rfl)).trans c46
            have hr : refSize d ≤ 256 := by unfold refSize; omega
            refine ⟨rfl, call10, H', call10_ok, 0, ?_, (k1.trans k2).ext hw⟩
            generalize call10 = call at c14 c46'
            generalize refSize d = n at *
            simp [Try.f10, os, hH, ld, callA, c14, hr, c46', hle]
          · have hr : ¬ refSize d ≤ 256 := by unfold refSize; omega
            refine ⟨rfl, call10, H1, call10_ok, 0, ?_, k1.ext hw⟩
            generalize call10 = call at c14
            generalize refSize d = n at *
            simp [undef, Try.f10, os, hH, ld, callA, c14, hr, hle]
        · cases hr
      · cases hr
    · cases hr)
theorem refRight_hit {cs : List (Contract Try.prog)} {H : Heap} {v : Value} {d : ValD} (h : rdVal H v = some d) (hb : d.size ≤ 1073741824) : callOf (refRightC :: cs) (.fn 10 [v]) H = some (.ret (.bool (rightL d)), H) :=
  callOf_hit rfl (by simp [refRightC, Contract.plain, h, hb])
noncomputable def refIsEventC : Contract Try.prog := Contract.plain 16
  (fun args H => match args with
    | [v] => match rdVal H v with
      | some d => if d.size ≤ 1073741824 then some (.ret (.bool (isEventL d))) else none
      | none => none
    | _ => none) (by
    intro args H res hw hr
    split at hr
    · rename_i v
      split at hr
      · rename_i d hd
        split at hr
        · rename_i hb
          simp only [Option.some.injEq] at hr
          subst hr
          obtain ⟨s, xs, rfl, h1, h2, h3, hva, sc, os, _⟩ := rdVal_cells hd
          have k1 := (Kept.refl hw none).push (.cells true 3 [.int .i64 d.kind, .int .i64 d.num, s])
          have g1 := get_push_self H (.cells true 3 [.int .i64 d.kind, .int .i64 d.num, s])
          have hd1 := rdVal_ext (k1.ext hw) hd
          generalize hH : H.push (.cells true 3 [.int .i64 d.kind, .int .i64 d.num, s]) = H1 at *
          have ld : loadA Try.prog 25 H1 H.next 0 = some (.agg #[.int .i64 d.kind, .int .i64 d.num, s]) := by simp [loadA, g1]
          have l0 : loadA Try.prog 22 H1 H.next 0 = some (.int .i64 d.kind) := by simp [loadA, g1]
          have c1 := refRight_hit (cs := [refEventC]) hd1 hb
          have c2 : callOf [refRightC, refEventC] (.fn 52 [.int .i64 d.kind]) H1 = some (.ret (.bool (isEv d.kind)), H1) := by rw [callOf_miss (by decide)]; exact refEvent_hit
          refine ⟨rfl, callOf [refRightC, refEventC], H1, callOf_ok _, 0, ?_, k1.ext hw⟩
          generalize callOf [refRightC, refEventC] = call at c1 c2
          cases hR : rightL d with
          | true =>
            rw [hR] at c1
            simp [Try.f16, os, hH, ld, l0, callA, c1, c2, isEventL, hR]
          | false =>
            rw [hR] at c1
            simp [undef, Try.f16, os, hH, ld, callA, c1, isEventL, hR]
        · cases hr
      · cases hr
    · cases hr)
theorem refIsEvent_hit {cs : List (Contract Try.prog)} {H : Heap} {v : Value} {d : ValD} (h : rdVal H v = some d) (hb : d.size ≤ 1073741824) : callOf (refIsEventC :: cs) (.fn 16 [v]) H = some (.ret (.bool (isEventL d)), H) :=
  callOf_hit rfl (by simp [refIsEventC, Contract.plain, h, hb])
noncomputable def numC : Contract Try.prog := Contract.plain 11
  (fun args _ => match args with
    | [.int .i64 n] => some (.ret (.int .i64 n))
    | _ => none) (by
    intro args H res hw hr
    split at hr
    · rename_i n
      cases hr
      exact ⟨rfl, _, H, noCall_ok, 0, by simp [Try.f11], Ext.refl H⟩
    · cases hr)

/-! ### ValChecks (3) -/
noncomputable def c3 : List (Contract Try.prog) := [refRightC, checkC, numC, sizeC, refSizeC, isEventC, refIsEventC, worksC]
theorem checks_run {H : Heap} {v : Value} {d : ValD} (hw : H.Wf) (hv : rdVal H v = some d) (hb : d.size ≤ 1073741824) : ∃ H', evFn Try.prog (callOf c3) 0 3 [v] H = some (.ret (.bool true), H') := by
  obtain ⟨s, xs, rfl, h1, h2, h3, hva, sc, os, oe, oe0, _⟩ := rdVal_cells hv
  have k1 := (Kept.refl hw none).push (.cells true 3 [.int .i64 d.kind, .int .i64 d.num, s])
  have g1 := get_push_self H (.cells true 3 [.int .i64 d.kind, .int .i64 d.num, s])
  have hv1 := rdVal_ext (k1.ext hw) hv
  generalize hH : H.push (.cells true 3 [.int .i64 d.kind, .int .i64 d.num, s]) = H1 at *
  have ld : loadA Try.prog 25 H1 H.next 0 = some (.agg #[.int .i64 d.kind, .int .i64 d.num, s]) := by simp [loadA, g1]
  have q10 : callOf c3 (.fn 10 [.agg #[.int .i64 d.kind, .int .i64 d.num, s]]) H1 = some (.ret (.bool (rightL d)), H1) := refRight_hit hv1 hb
  have q12 : callOf c3 (.fn 12 [.agg #[.int .i64 d.kind, .int .i64 d.num, s]]) H1 = some (.ret (.int .i64 (checkL d)), H1) := by unfold c3; rw [callOf_miss (by decide)]; exact check_hit hv1 hb
  have q11 : callOf c3 (.fn 11 [.int .i64 (checkL d)]) H1 = some (.ret (.int .i64 (checkL d)), H1) := by unfold c3; rw [callOf_miss (by decide), callOf_miss (by decide)]; exact callOf_hit rfl rfl
  have q13 : callOf c3 (.fn 13 [.agg #[.int .i64 d.kind, .int .i64 d.num, s]]) H1 = some (.ret (.int .i64 (refSize d)), H1) := by unfold c3; rw [callOf_miss (by decide), callOf_miss (by decide), callOf_miss (by decide), size_hit hv1, sizeL_eq]
  have q14 : callOf c3 (.fn 14 [.agg #[.int .i64 d.kind, .int .i64 d.num, s]]) H1 = some (.ret (.int .i64 (refSize d)), H1) := by unfold c3; rw [callOf_miss (by decide), callOf_miss (by decide), callOf_miss (by decide), callOf_miss (by decide)]; exact refSize_hit hv1 hb
  have q15 : callOf c3 (.fn 15 [.agg #[.int .i64 d.kind, .int .i64 d.num, s]]) H1 = some (.ret (.bool (isEventL d)), H1) := by unfold c3; (iterate 5 rw [callOf_miss (by decide)]); exact isEvent_hit hv1 hb
  have q16 : callOf c3 (.fn 16 [.agg #[.int .i64 d.kind, .int .i64 d.num, s]]) H1 = some (.ret (.bool (isEventL d)), H1) := by unfold c3; (iterate 6 rw [callOf_miss (by decide)]); exact refIsEvent_hit hv1 hb
  have q17 : callOf c3 (.fn 17 []) H1 = some (.ret (.bool true), H1) := by unfold c3; (iterate 7 rw [callOf_miss (by decide)]); exact callOf_hit rfl rfl
  generalize callOf c3 = call at *
  refine ⟨H1, ?_⟩
  generalize hr : evFn Try.prog call 0 3 [.agg #[.int .i64 d.kind, .int .i64 d.num, s]] H = out
  cases hR : rightL d with
  | true =>
    have hk : checkL d = 0 := by simp [checkL, hR]
    rw [hR] at q10
    rw [hk] at q11 q12
    simp [Try.f3, os, hH, ld, callA, q10, q11, q12] at hr
    rw [evDraw_tab (tab := [(15, [14]), (22, [21])])] at hr
    · simp [undef, eqA, Try.underlying4, ld, callA, q13, q14, q15, q16, q17, oe, oe0] at hr
      exact hr.symm
    · kernel_rfl
    · kernel_rfl
  | false =>
    have hk : checkL d = 40 := by simp [checkL, hR]
    rw [hR] at q10
    rw [hk] at q11 q12
    simp [Try.f3, os, hH, ld, callA, q10, q11, q12] at hr
    rw [evDraw_tab (tab := [(15, [14]), (22, [21])])] at hr
    · simp [undef, eqA, Try.underlying4, ld, callA, q13, q14, q15, q16, q17, oe, oe0] at hr
      exact hr.symm
    · kernel_rfl
    · kernel_rfl
end Go.Proofs.Ytgopamojnoefiaa

namespace Go.Proofs.Ytgopamojnoefiaa
open Go Go.Abs
set_option maxRecDepth 100000
set_option linter.unusedSimpArgs false
set_option linter.unusedVariables false

/-! ### Values that come in -/
theorem cells25 : Try.prog.cellsOf 25 = 3 := by kernel_rfl
theorem cells22 : Try.prog.cellsOf 22 = 1 := by kernel_rfl
theorem cells2 : Try.prog.cellsOf 2 = 1 := by kernel_rfl
theorem cells23 : Try.prog.cellsOf 23 = 1 := by kernel_rfl
mutual
def wfV : ValD → Bool
  | .mk k n l => (Lit.int .i64 k).wf && ((Lit.int .i64 n).wf && wfVs l)
def wfVs : List ValD → Bool
  | [] => true
  | v :: l => wfV v && wfVs l
end
section
variable {D : Type} {H : Heap}
theorem bulk_one (d : DataW D) : 1 ≤ Rows.uptoBulk d := by
  cases d with
  | lit l => cases l <;> simp [Rows.uptoBulk]
  | nil => simp [Rows.uptoBulk]
  | ptr d => simp [Rows.uptoBulk]
  | slice elems spare => simp [Rows.uptoBulk]
  | agg parts => simp [Rows.uptoBulk]
  | iface t d => simp [Rows.uptoBulk]
  | map entries => simp [Rows.uptoBulk]
  | held h => simp [Rows.uptoBulk]
theorem bulk_part {d : DataW D} {l : List (DataW D)} (h : d ∈ l) : Rows.uptoBulk d ≤ Rows.uptoBulkAll l := by
  induction l with
  | nil => cases h
  | cons x r ih =>
    simp only [Rows.uptoBulkAll]
    cases List.mem_cons.1 h with
    | inl e => subst e; omega
    | inr e => have := ih e; omega
theorem AR_int {t : TypeId} {k : IntKind} (hu : Try.prog.underlying t = some (.int k)) {cs : List Value} {d : DataW D} (h : AR Try.prog H t cs d) : ∃ n, cs = [.int k n] ∧ (Lit.int k n).wf = true := by
  cases h with
  | int ht hw => rw [hu] at ht; cases ht; exact ⟨_, rfl, hw⟩
  | bool ht => rw [hu] at ht; cases ht
  | string ht _ => rw [hu] at ht; cases ht
  | sliceNil ht => rw [hu] at ht; cases ht
  | slice ht _ _ _ _ _ _ => rw [hu] at ht; cases ht
  | struct ht _ _ _ => rw [hu] at ht; cases ht

/-- Rows of values, from the values themselves. -/
theorem vals_list {xs : List (List Value)} {ds : List (DataW D)} (hl : xs.length = ds.length) (h : ∀ (i : Nat) x d, xs[i]? = some x → ds[i]? = some d → ∃ v, VAt H v x ∧ v.size ≤ Rows.uptoBulk d ∧ wfV v = true) :
    ∃ l : List ValD, xs.length = l.length ∧ (∀ (i : Nat) x v, xs[i]? = some x → l[i]? = some v → VAt H v x) ∧ ValD.sizes l ≤ Rows.uptoBulkAll ds ∧ wfVs l = true ∧ ∀ (i : Nat) v d, l[i]? = some v → ds[i]? = some d → v.size ≤ Rows.uptoBulk d := by
  induction xs generalizing ds with
  | nil =>
    cases ds with
    | cons d ds => cases hl
    | nil => exact ⟨[], rfl, (fun i x v hx => by simp at hx), by simp [ValD.sizes], rfl, fun i v d hv => by simp at hv⟩
  | cons x xs ih =>
    cases ds with
    | nil => cases hl
    | cons d ds =>
      obtain ⟨v, h1, h2, h3⟩ := h 0 x d rfl rfl
      obtain ⟨l, g1, g2, g3, g4, g5⟩ := ih (ds := ds) (by simpa using hl) (fun i y e a b => h (i + 1) y e (by simpa using a) (by simpa using b))
      refine ⟨v :: l, by simp [g1], fun i y w a b => ?_, by simp only [ValD.sizes, Rows.uptoBulkAll]; omega, by simp only [wfVs, h3, g4, Bool.and_self], fun i w e a b => ?_⟩
      · cases i with
        | zero => simp at a b; subst a; subst b; exact h1
        | succ i => exact g2 i y w (by simpa using a) (by simpa using b)
      · cases i with
        | zero => simp at a b; subst a; subst b; exact h2
        | succ i => exact g5 i w e (by simpa using a) (by simpa using b)

theorem val_of_AR : ∀ (n : Nat) {cs : List Value} {d : DataW D}, Rows.uptoBulk d ≤ n → AR Try.prog H 25 cs d → ∃ v, VAt H v cs ∧ v.size ≤ Rows.uptoBulk d ∧ wfV v = true
  | 0, cs, d, hn, _ => by have := bulk_one d; omega
  | n + 1, cs, d, hn, h => by
    have hu := Try.underlying25
    cases h with
    | int ht hw => rw [hu] at ht; cases ht
    | bool ht => rw [hu] at ht; cases ht
    | string ht _ => rw [hu] at ht; cases ht
    | sliceNil ht => rw [hu] at ht; cases ht
    | slice ht _ _ _ _ _ _ => rw [hu] at ht; cases ht
    | struct ht hc hl hx =>
      rename_i fs ds
      rw [hu] at ht; cases ht
      rw [cells25] at hc
      match cs, hc, ds, hl with
      | [a, b, c], _, [d0, d1, d2], _ =>
        have h0 := hx 0 _ d0 rfl rfl
        have h1 := hx 1 _ d1 rfl rfl
        have h2 := hx 2 _ d2 rfl rfl
        simp [cells22, cells2, cells23] at h0 h1 h2
        obtain ⟨k, e0, wk⟩ := AR_int Try.underlying22 h0
        obtain ⟨m, e1, wm⟩ := AR_int Try.underlying2 h1
        simp at e0 e1
        subst e0; subst e1
        simp only [Rows.uptoBulk, Rows.uptoBulkAll] at hn ⊢
        have hu3 := Try.underlying23
        cases h2 with
        | int ht hw => rw [hu3] at ht; cases ht
        | bool ht => rw [hu3] at ht; cases ht
        | string ht _ => rw [hu3] at ht; cases ht
        | sliceNil ht => exact ⟨.mk k m [], .mk trivial rfl rfl (fun i x v hx => by simp at hx), by simp only [ValD.size, ValD.sizes]; omega, by simp [wfV, wfVs, wk, wm]⟩
        | struct ht _ _ _ => rw [hu3] at ht; cases ht
        | slice ht hr hs hnn hl2 hm hx2 =>
          rename_i e v xs es sp
          rw [hu3] at ht; cases ht
          rw [cells25] at hr
          simp only [Rows.uptoBulk] at hn ⊢
          obtain ⟨l, g1, g2, g3, g4, _⟩ := vals_list hl2 (fun i x d a b => val_of_AR n (d := d) (by have := bulk_part (List.mem_of_getElem? b); omega) (hx2 i x d a b))
          refine ⟨.mk k m l, .mk ?_ hr g1 g2, by simp only [ValD.size]; omega, by simp [wfV, wk, wm, g4]⟩
          unfold sliceOk
          split
          · rename_i a' n' c'
            exact .inl (by simpa [small] using hs)
          · trivial
end
end Go.Proofs.Ytgopamojnoefiaa
