/-
  A part of a proof: texts laid behind one another (V38, V39, V40, V41, V42, V43).
-/
import Derived.Test.YtgopamojnoefiaaGV5
namespace Go.Proofs.Ytgopamojnoefiaa
open Go Go.Abs
set_option maxRecDepth 100000
set_option linter.unusedSimpArgs false
set_option linter.unusedVariables false

/-! ### Values whose rows stand behind a place -/
def hiRow (lo : Nat) (H : Heap) (xs : List (List Value)) (v : Value) : Prop := rdS H 3 v = some xs ∧ sliceOk H 3 v ∧ (v = .slice none 0 0 ∨ ∃ b ob, blockOf v = some b ∧ lo ≤ b ∧ H.get b = some ob)
theorem hiRow.from {lo : Nat} {H K : Heap} {xs : List (List Value)} {v : Value} (h : hiRow lo H xs v) (k : SameFrom lo H K) : hiRow lo K xs v := by
  obtain ⟨h1, h2, h3⟩ := h
  have hs : ∀ b, blockOf v = some b → K.get b = H.get b := by
    intro b hb
    rcases h3 with rfl | ⟨b', ob, h4, h5, h6⟩
    · cases hb
    · rw [h4] at hb; cases hb
      rw [h6, k.2 _ _ h5 h6]
  refine ⟨(rdS_as hs).trans h1, sliceOk_as hs h2, ?_⟩
  rcases h3 with h3 | ⟨b', ob, h4, h5, h6⟩
  · exact .inl h3
  · exact .inr ⟨b', ob, h4, h5, k.2 _ _ h5 h6⟩
inductive VHi (lo : Nat) (H : Heap) : ValD → List Value → Prop
  | mk {k n : Int} {s : Value} {xs : List (List Value)} {l : List ValD} (hr : hiRow lo H xs s) (hl : xs.length = l.length) (hx : ∀ (i : Nat) x v, xs[i]? = some x → l[i]? = some v → VHi lo H v x) : VHi lo H (.mk k n l) [.int .i64 k, .int .i64 n, s]
theorem VHi.inv {lo : Nat} {H : Heap} {d : ValD} {cs : List Value} (h : VHi lo H d cs) : ∃ s xs, cs = [.int .i64 d.kind, .int .i64 d.num, s] ∧ hiRow lo H xs s ∧ xs.length = d.own.length ∧ ∀ (i : Nat) x v, xs[i]? = some x → d.own[i]? = some v → VHi lo H v x := by
  cases h with
  | mk hr hl hx => exact ⟨_, _, rfl, hr, hl, hx⟩
theorem VHi.of {lo : Nat} {H : Heap} {d : ValD} {s : Value} {xs : List (List Value)} (hr : hiRow lo H xs s) (hl : xs.length = d.own.length) (hx : ∀ (i : Nat) x v, xs[i]? = some x → d.own[i]? = some v → VHi lo H v x) : VHi lo H d [.int .i64 d.kind, .int .i64 d.num, s] := by
  cases d; exact .mk hr hl hx
theorem VHi.at {lo : Nat} {H : Heap} : ∀ {d : ValD} {cs : List Value}, VHi lo H d cs → VAt H d cs := by
  intro d
  induction d using ValD.ind with
  | h d ih =>
    intro cs h
    obtain ⟨s, xs, rfl, hr, hl, hx⟩ := h.inv
    exact .of hr.2.1 hr.1 hl fun i x v a b => ih v (List.mem_of_getElem? b) (hx i x v a b)
theorem VHi.from {lo : Nat} {H K : Heap} (k : SameFrom lo H K) : ∀ {d : ValD} {cs : List Value}, VHi lo H d cs → VHi lo K d cs := by
  intro d
  induction d using ValD.ind with
  | h d ih =>
    intro cs h
    obtain ⟨s, xs, rfl, hr, hl, hx⟩ := h.inv
    exact .of (hr.from k) hl fun i x v a b => ih v (List.mem_of_getElem? b) (hx i x v a b)

/-! ### ValMany (5): what it makes -/
def vD : Nat → ValD
  | 0 => .mk 1 0 []
  | n + 1 => .mk 3 0 [vD n, .mk 1 0 []]
def wD (n : Nat) : ValD := .mk 9 0 (List.replicate n (.mk 8 0 []))
theorem vD_size : ∀ n, (vD n).size = 1 + 2 * n
  | 0 => rfl
  | n + 1 => by simp only [vD, ValD.size, ValD.sizes, vD_size n]; omega
theorem sizes_rep (v : ValD) : ∀ n, ValD.sizes (List.replicate n v) = n * v.size
  | 0 => by simp [ValD.sizes]
  | n + 1 => by simp only [List.replicate_succ, ValD.sizes, sizes_rep v n, Nat.succ_mul]; omega
theorem wD_size (n : Nat) : (wD n).size = 1 + n := by
  simp only [wD, ValD.size, sizes_rep, ValD.sizes]; omega
theorem vD_num : ∀ n, (vD n).num = 0
  | 0 => rfl
  | n + 1 => rfl
theorem shape_unit : shapeL (.mk 1 0 []) = true := by decide
theorem shape_never : shapeL (.mk 8 0 []) = true := by decide
theorem shape_pair (a b : ValD) : shapeL (.mk 3 0 [a, b]) = true := by
  unfold shapeL
  simp [ValD.kind, ValD.num, ValD.own, numL, valL]
theorem vD_shapes : ∀ n, shapesL (vD n) = true
  | 0 => by decide
  | n + 1 => by
    have h1 : shapesL (.mk 1 0 []) = true := by decide
    rw [shapesL_eq]
    simp only [vD, ValD.own, shapesLs, vD_shapes n, h1, shape_pair, Bool.and_self]
theorem vD_right (n : Nat) : rightL (vD n) = decide (1 + 2 * n ≤ 256) := by
  rw [rightL_eq, vD_size, vD_shapes, Bool.and_true]
theorem rep_shapes : ∀ n, shapesLs (List.replicate n (.mk 8 0 [])) = true
  | 0 => rfl
  | n + 1 => by
    have h1 : shapesL (.mk 8 0 []) = true := by decide
    simp only [List.replicate_succ, shapesLs, rep_shapes n, h1, Bool.and_self]
theorem wD_right (n : Nat) : rightL (wD n) = decide (n ≤ 16) := by
  have h2 : ((List.replicate n (ValD.mk 8 0 [])).all fun d => isEv d.kind) = true := by
    rw [List.all_eq_true]
    intro x hx
    rw [(List.mem_replicate.1 hx).2]
    decide
  have h : shapeL (wD n) = decide (n ≤ 16) := by
    unfold shapeL wD
    simp only [ValD.kind, ValD.num, ValD.own]
    have e : valL 9 (List.replicate n (ValD.mk 8 0 [])) = chooseL (List.replicate n (ValD.mk 8 0 [])) := rfl
    show (decide (0 ≤ (9 : Int) ∧ (9 : Int) < 14) && (numL 9 0 && valL 9 (List.replicate n (ValD.mk 8 0 [])))) = _
    rw [e, chooseL, h2, List.length_replicate, show numL 9 0 = true from by decide]
    simp
  rw [rightL_eq, wD_size, shapesL_eq, h]
  show (decide (1 + n ≤ 256) && (decide (n ≤ 16) && shapesLs (List.replicate n (.mk 8 0 [])))) = _
  rw [rep_shapes, Bool.and_true]
  by_cases h1 : n ≤ 16
  · rw [decide_eq_true h1, decide_eq_true (by omega)]; rfl
  · rw [decide_eq_false h1, Bool.and_false]

theorem two_build {H : Heap} {k n k' n' : Int} {s s' : Value} : buildSliceA Try.prog 23 2 [(0, .agg #[.int .i64 k, .int .i64 n, s]), (1, .agg #[.int .i64 k', .int .i64 n', s'])] H = some (.slice (some ⟨H.next, 0, none⟩) 2 2, H.push (.cells true 3 [.int .i64 k, .int .i64 n, s, .int .i64 k', .int .i64 n', s'])) := by kernel_rfl
theorem built1 {k : Int} : Try.prog.built 25 [(0, .int .i64 k)] = some #[.int .i64 k, .int .i64 0, .slice none 0 0] := by kernel_rfl
theorem built2 {k : Int} {a : Addr} {n c : Nat} : Try.prog.built 25 [(0, .int .i64 k), (2, .slice (some a) n c)] = some #[.int .i64 k, .int .i64 0, .slice (some a) n c] := by kernel_rfl

def pM1 : List Nat := [1, 1, 1, 0, 1, 0, 0]
def pM2 : List Nat := [1, 1, 1, 1, 1, 0, 1, 0, 0]
theorem m1_exit {call : CallF} {lf : Nat} {env : Env} {H : Heap} {i n : Nat} (e0 : env.val 0 = .int .i64 (n : Int)) (e6 : env.val 6 = .int .i64 (i : Int)) (hi : n ≤ i) :
    ∃ env', evCode Try.prog call lf 126 none (cAt Try.f5 pM1) env [] H = some (.exit 0, env', [], H) ∧ env'.val 0 = env.val 0 ∧ env'.val 1 = env.val 1 ∧ env'.val 5 = env.val 5 := by
  have c1 : ¬ (i : Int) < (n : Int) := by omega
  generalize hr : evCode Try.prog call lf 126 none (cAt Try.f5 pM1) env [] H = out
  simp [pM1, Try.f5, e0, e6, hi, c1] at hr
  subst hr
  exact ⟨_, rfl, by simp [e0], by simp, by simp⟩
theorem m1_step {call : CallF} {lf : Nat} {env : Env} {H : Heap} {b5 i n : Nat} {k m : Int} {s : Value} (hw : H.Wf) (e0 : env.val 0 = .int .i64 (n : Int)) (e5 : env.val 5 = .pointer (some ⟨b5, 0, none⟩)) (e6 : env.val 6 = .int .i64 (i : Int)) (hi : i < n) (hn : n < 1099511627776) (g5 : H.get b5 = some (.cells true 3 [.int .i64 k, .int .i64 m, s])) :
    ∃ env', evCode Try.prog call lf 126 none (cAt Try.f5 pM1) env [] H = some (.normal, env', [], (H.push (.cells true 3 [.int .i64 k, .int .i64 m, s, .int .i64 1, .int .i64 0, .slice none 0 0])).set b5 (.cells true 3 [.int .i64 3, .int .i64 0, .slice (some ⟨H.next, 0, none⟩) 2 2])) ∧ env'.val 0 = env.val 0 ∧ env'.val 1 = env.val 1 ∧ env'.val 5 = env.val 5 ∧ env'.val 6 = .int .i64 ((i + 1 : Nat) : Int) := by
  have c1 : (i : Int) < (n : Int) := by omega
  have w1 : IntKind.i64.wrap ((i : Int) + 1) = (i : Int) + 1 := wrapI (by omega) (by omega)
  have ld : loadA Try.prog 25 H b5 0 = some (.agg #[.int .i64 k, .int .i64 m, s]) := by simp [loadA, g5]
  have tb := two_build (H := H) (k := k) (n := m) (s := s) (k' := 1) (n' := 0) (s' := .slice none 0 0)
  have hb := hw.lt g5
  have g5' : (H.push (.cells true 3 [.int .i64 k, .int .i64 m, s, .int .i64 1, .int .i64 0, .slice none 0 0])).get b5 = some (.cells true 3 [.int .i64 k, .int .i64 m, s]) := by rw [get_push_ne (by omega)]; exact g5
  have st : storeA Try.prog 25 (H.push (.cells true 3 [.int .i64 k, .int .i64 m, s, .int .i64 1, .int .i64 0, .slice none 0 0])) b5 0 (.agg #[.int .i64 3, .int .i64 0, .slice (some ⟨H.next, 0, none⟩) 2 2]) = some ((H.push (.cells true 3 [.int .i64 k, .int .i64 m, s, .int .i64 1, .int .i64 0, .slice none 0 0])).set b5 (.cells true 3 [.int .i64 3, .int .i64 0, .slice (some ⟨H.next, 0, none⟩) 2 2])) := by simp [storeA, g5', putL]
  generalize hr : evCode Try.prog call lf 126 none (cAt Try.f5 pM1) env [] H = out
  simp [pM1, Try.f5, e0, e5, e6, hi, c1, ld, built1, built2, tb, st, w1] at hr
  subst hr
  exact ⟨_, rfl, by simp [e0], by simp, by simp [e5], by simp⟩
theorem m1_loop {call : CallF} {lf b5 n : Nat} (hn : n ≤ 400) :
    ∀ (d i m : Nat) (env : Env) (K : Heap) (s : Value), d < m → n = i + d → K.Wf → K.get b5 = some (.cells true 3 [.int .i64 (vD i).kind, .int .i64 (vD i).num, s]) → VHi (b5 + 1) K (vD i) [.int .i64 (vD i).kind, .int .i64 (vD i).num, s] → env.val 0 = .int .i64 (n : Int) → env.val 5 = .pointer (some ⟨b5, 0, none⟩) → env.val 6 = .int .i64 (i : Int) →
    ∃ env' K' s', evLoop Try.prog call lf 126 none (cAt Try.f5 pM1) m env [] K = some (.exit 0, env', [], K') ∧ env'.val 0 = env.val 0 ∧ env'.val 1 = env.val 1 ∧ env'.val 5 = env.val 5 ∧ K'.Wf ∧ K'.get b5 = some (.cells true 3 [.int .i64 (vD n).kind, .int .i64 (vD n).num, s']) ∧ VHi (b5 + 1) K' (vD n) [.int .i64 (vD n).kind, .int .i64 (vD n).num, s']
  | d, i, 0, env, K, s, hm, _, _, _, _, _, _, _ => by omega
  | 0, i, m + 1, env, K, s, hm, hd, hw, hg, hv, e0, e5, e6 => by
    have hi : n = i := by omega
    subst hi
    obtain ⟨env', he, u0, u1, u5⟩ := m1_exit (call := call) (lf := lf) (H := K) e0 e6 (Nat.le_refl _)
    simp only [evLoop_succ, he]
    exact ⟨env', K, s, rfl, u0, u1, u5, hw, hg, hv⟩
  | d + 1, i, m + 1, env, K, s, hm, hd, hw, hg, hv, e0, e5, e6 => by
    obtain ⟨env', he, u0, u1, u5, u6⟩ := m1_step (call := call) (lf := lf) hw e0 e5 e6 (by omega) (by omega) hg
    have hb := hw.lt hg
    have hwP := hw.push (.cells true 3 [.int .i64 (vD i).kind, .int .i64 (vD i).num, s, .int .i64 1, .int .i64 0, .slice none 0 0])
    have gr := get_push_self K (.cells true 3 [.int .i64 (vD i).kind, .int .i64 (vD i).num, s, .int .i64 1, .int .i64 0, .slice none 0 0])
    have sf : SameFrom (b5 + 1) K ((K.push (.cells true 3 [.int .i64 (vD i).kind, .int .i64 (vD i).num, s, .int .i64 1, .int .i64 0, .slice none 0 0])).set b5 (.cells true 3 [.int .i64 3, .int .i64 0, .slice (some ⟨K.next, 0, none⟩) 2 2])) :=
      (kept_from ((Kept.refl hw none).push _) hw (b5 + 1)).trans (SameFrom.set (by omega) _)
    have hv' : VHi (b5 + 1) ((K.push (.cells true 3 [.int .i64 (vD i).kind, .int .i64 (vD i).num, s, .int .i64 1, .int .i64 0, .slice none 0 0])).set b5 (.cells true 3 [.int .i64 3, .int .i64 0, .slice (some ⟨K.next, 0, none⟩) 2 2])) (vD (i + 1)) [.int .i64 (vD (i + 1)).kind, .int .i64 (vD (i + 1)).num, .slice (some ⟨K.next, 0, none⟩) 2 2] := by
      have gg : ((K.push (.cells true 3 [.int .i64 (vD i).kind, .int .i64 (vD i).num, s, .int .i64 1, .int .i64 0, .slice none 0 0])).set b5 (.cells true 3 [.int .i64 3, .int .i64 0, .slice (some ⟨K.next, 0, none⟩) 2 2])).get K.next = some (.cells true 3 [.int .i64 (vD i).kind, .int .i64 (vD i).num, s, .int .i64 1, .int .i64 0, .slice none 0 0]) := by rw [get_set_ne (by omega)]; exact gr
      refine .of (xs := [[.int .i64 (vD i).kind, .int .i64 (vD i).num, s], [.int .i64 1, .int .i64 0, .slice none 0 0]]) ⟨?_, .inl (by rw [BIG_val]; omega), .inr ⟨K.next, _, rfl, by omega, gg⟩⟩ rfl (fun j x v a b => ?_)
      · simp only [rdS, gg]
        rw [if_pos ⟨by decide, by simp⟩]
        simp [chunks]
      · match j with
        | 0 => simp [vD, ValD.own] at a b; subst a; subst b; exact hv.from sf
        | 1 => simp [vD, ValD.own] at a b; subst a; subst b; exact .mk (xs := []) ⟨rfl, trivial, .inl rfl⟩ rfl (fun i x v hx => by simp at hx)
        | j + 2 => simp at a
    obtain ⟨e2, K', s', r, t0, t1, t5, r1, r2, r3⟩ := m1_loop (call := call) (lf := lf) hn d (i + 1) m env' _ _ (by omega) (by omega) (hwP.set (by simp; omega) _) (get_set_self _ _ _) hv' (u0.trans e0) (u5.trans e5) u6
    simp only [evLoop_succ, he]
    exact ⟨e2, K', s', r, t0.trans u0, t1.trans u1, t5.trans u5, r1, r2, r3⟩
end Go.Proofs.Ytgopamojnoefiaa

namespace Go.Proofs.Ytgopamojnoefiaa
open Go Go.Abs
set_option maxRecDepth 100000
set_option linter.unusedSimpArgs false
set_option linter.unusedVariables false

theorem madeL_rep (z : List Value) (hz : 0 < z.length) : ∀ n : Nat, madeL z (n * z.length) = (List.replicate n z).flatten
  | 0 => by simp [madeL]
  | n + 1 => by
    have ih := madeL_rep z hz n
    unfold madeL at ih ⊢
    rw [Nat.succ_mul, List.range_add, List.map_append, ih, List.replicate_succ', List.flatten_append]
    congr 1
    simp only [List.map_map, List.flatten_cons, List.flatten_nil, List.append_nil]
    apply List.ext_getElem
    · simp
    · intro j h1 h2
      simp only [List.getElem_map, List.getElem_range, Function.comp]
      rw [Nat.add_comm, Nat.add_mul_mod_self_right, Nat.mod_eq_of_lt h2, List.getD_eq_getElem?_getD, List.getElem?_eq_getElem h2]
      rfl
theorem make_slice {H : Heap} {n : Nat} (hn : n ≤ 1000) : makeSliceA Try.prog 23 (n : Int) (n : Int) H = some (.slice (some ⟨H.next, 0, none⟩) n n, H.push (.cells true 3 (List.replicate n [Value.int .i64 0, .int .i64 0, .slice none 0 0]).flatten)) := by
  have h := madeL_rep [Value.int .i64 0, .int .i64 0, .slice none 0 0] (by simp) n
  simp only [makeSliceA, elem23, zero25]
  rw [if_pos ⟨by omega, Int.le_refl _, by omega, by decide, by decide, by rfl⟩]
  simp only [Int.toNat_natCast, size25, cells_agg]
  simp only [List.length_cons, List.length_nil] at h
  rw [h]

theorem m2_exit {call : CallF} {lf : Nat} {env : Env} {H : Heap} {i n : Nat} (e1 : env.val 1 = .int .i64 (n : Int)) (e8 : env.val 8 = .int .i64 (i : Int)) (hi : n ≤ i) :
    ∃ env', evCode Try.prog call lf 126 none (cAt Try.f5 pM2) env [] H = some (.exit 2, env', [], H) ∧ env'.val 0 = env.val 0 ∧ env'.val 1 = env.val 1 ∧ env'.val 5 = env.val 5 ∧ env'.val 7 = env.val 7 := by
  have c1 : ¬ (i : Int) < (n : Int) := by omega
  generalize hr : evCode Try.prog call lf 126 none (cAt Try.f5 pM2) env [] H = out
  simp [pM2, Try.f5, e1, e8, hi, c1] at hr
  subst hr
  exact ⟨_, rfl, by simp, by simp [e1], by simp, by simp⟩
theorem m2_step {call : CallF} {lf : Nat} {env : Env} {H H' : Heap} {b7 b i n : Nat} {s : Value} (e1 : env.val 1 = .int .i64 (n : Int)) (e7 : env.val 7 = .pointer (some ⟨b7, 0, none⟩)) (e8 : env.val 8 = .int .i64 (i : Int)) (hi : i < n) (hn : n < 1099511627776) (l2 : loadA Try.prog 23 H b7 2 = some s) (ix : indexAddrA Try.prog 23 s (i : Int) = some (.pointer (some ⟨b, i * 3, none⟩)))
    (st : storeA Try.prog 25 H b (i * 3) (.agg #[.int .i64 8, .int .i64 0, .slice none 0 0]) = some H') :
    ∃ env', evCode Try.prog call lf 126 none (cAt Try.f5 pM2) env [] H = some (.normal, env', [], H') ∧ env'.val 0 = env.val 0 ∧ env'.val 1 = env.val 1 ∧ env'.val 5 = env.val 5 ∧ env'.val 7 = env.val 7 ∧ env'.val 8 = .int .i64 ((i + 1 : Nat) : Int) := by
  have c1 : (i : Int) < (n : Int) := by omega
  have w1 : IntKind.i64.wrap ((i : Int) + 1) = (i : Int) + 1 := wrapI (by omega) (by omega)
  generalize hr : evCode Try.prog call lf 126 none (cAt Try.f5 pM2) env [] H = out
  simp [pM2, Try.f5, e1, e7, e8, hi, c1, l2, ix, built1, st, w1] at hr
  subst hr
  exact ⟨_, rfl, by simp, by simp [e1], by simp, by simp [e7], by simp⟩
def Fill (n i : Nat) (ys : List (List Value)) : Prop := ys.length = n ∧ ∀ j, j < n → ys[j]? = some (if j < i then [.int .i64 8, .int .i64 0, .slice none 0 0] else [.int .i64 0, .int .i64 0, .slice none 0 0])
theorem Fill.three {n i : Nat} {ys : List (List Value)} (h : Fill n i ys) : ∀ x ∈ ys, x.length = 3 := by
  intro x hx
  obtain ⟨j, hj, rfl⟩ := List.mem_iff_getElem.1 hx
  have e := h.2 j (by rw [← h.1]; exact hj)
  rw [List.getElem?_eq_getElem hj] at e
  rw [Option.some.inj e]
  split <;> rfl
theorem fill_rd {K : Heap} {b n i : Nat} {ys : List (List Value)} (hn : n ≤ 1000) (hg : K.get b = some (.cells true 3 ys.flatten)) (h : Fill n i ys) : rdS K 3 (.slice (some ⟨b, 0, none⟩) n n) = some ys := by
  have hfl : ys.flatten.length = ys.length * 3 := flatten_length ys h.three
  have hc : chunks 3 n ys.flatten = ys := by
    have := Go.Abs.chunks_flatten ys h.three
    rw [h.1] at this
    exact this
  simp only [rdS, hg]
  rw [if_pos ⟨by unfold capA; split <;> omega, by rw [hfl, h.1]; omega⟩, List.drop_zero, hc]
theorem m2_loop {call : CallF} {lf : Nat} {H0 : Heap} {b7 b n : Nat} {c7 : List Value} (hw0 : H0.Wf) (hn : n ≤ 400) (hb : H0.next ≤ b) (hb7 : H0.next ≤ b7) (hne : b7 ≠ b) (h7 : ∀ K : Heap, K.get b7 = some (.cells true 3 c7) → loadA Try.prog 23 K b7 2 = some (.slice (some ⟨b, 0, none⟩) n n)) :
    ∀ (d i m : Nat) (env : Env) (K : Heap) (ys : List (List Value)), d < m → n = i + d → Kept H0 K none → K.get b7 = some (.cells true 3 c7) → K.get b = some (.cells true 3 ys.flatten) → Fill n i ys → env.val 1 = .int .i64 (n : Int) → env.val 7 = .pointer (some ⟨b7, 0, none⟩) → env.val 8 = .int .i64 (i : Int) →
    ∃ env' K', ∃ ys' : List (List Value), evLoop Try.prog call lf 126 none (cAt Try.f5 pM2) m env [] K = some (.exit 2, env', [], K') ∧ env'.val 0 = env.val 0 ∧ env'.val 1 = env.val 1 ∧ env'.val 5 = env.val 5 ∧ env'.val 7 = env.val 7 ∧ Kept H0 K' none ∧ K'.get b7 = some (.cells true 3 c7) ∧ K'.get b = some (.cells true 3 ys'.flatten) ∧ Fill n n ys'
  | d, i, 0, env, K, ys, hm, _, _, _, _, _, _, _, _ => by omega
  | 0, i, m + 1, env, K, ys, hm, hd, hk, g7, hg, hF, e1, e7, e8 => by
    have hi : n = i := by omega
    subst hi
    obtain ⟨env', he, u0, u1, u5, u7⟩ := m2_exit (call := call) (lf := lf) (H := K) e1 e8 (Nat.le_refl _)
    simp only [evLoop_succ, he]
    exact ⟨env', K, ys, rfl, u0, u1, u5, u7, hk, g7, hg, hF⟩
  | d + 1, i, m + 1, env, K, ys, hm, hd, hk, g7, hg, hF, e1, e7, e8 => by
    have hrd := fill_rd (by omega) hg hF
    have hyl := hF.1
    have hy := hF.2 i (by omega)
    rw [if_neg (Nat.lt_irrefl _)] at hy
    have ix := rdS_index hrd Try.underlying23 info25 size25 (n := (i : Int)) (by omega) (by omega)
    simp only [blk, offs, Int.toNat_natCast, Nat.zero_add] at ix
    have hfl : ys.flatten.length = ys.length * 3 := flatten_length ys hF.three
    have st : storeA Try.prog 25 K b (i * 3) (.agg #[.int .i64 8, .int .i64 0, .slice none 0 0]) = some (K.set b (.cells true 3 (ys.set i [.int .i64 8, .int .i64 0, .slice none 0 0]).flatten)) := by
      rw [← flatten_put ys i _ hF.three rfl (by omega)]
      simp only [storeA, hg, info25, size25, cells_agg]
      rw [if_pos ⟨rfl, by omega, by rfl⟩]
    obtain ⟨env', he, u0, u1, u5, u7, u8⟩ := m2_step (call := call) (lf := lf) e1 e7 e8 (by omega) (by omega) (h7 K g7) ix st
    have hbK := hk.wf.lt hg
    obtain ⟨e2, K', ys', r, t0, t1, t5, t7, r1, r2, r3, r4⟩ := m2_loop (call := call) (lf := lf) hw0 hn hb hb7 hne h7 d (i + 1) m env' _ (ys.set i [.int .i64 8, .int .i64 0, .slice none 0 0]) (by omega) (by omega) (hk.set hb hbK _) (by rw [get_set_ne hne]; exact g7) (get_set_self _ _ _)
      ⟨by simp [hyl], fun j hj => by
        by_cases hji : j = i
        · subst hji
          rw [List.getElem?_set_self (by omega), if_pos (by omega)]
        · rw [List.getElem?_set_ne (by omega), hF.2 j hj]
          by_cases hlt : j < i
          · rw [if_pos hlt, if_pos (by omega)]
          · rw [if_neg hlt, if_neg (by omega)]⟩ (u1.trans e1) (u7.trans e7) u8
    simp only [evLoop_succ, he]
    exact ⟨e2, K', ys', r, t0.trans u0, t1.trans u1, t5.trans u5, t7.trans u7, r1, r2, r3, r4⟩
theorem wD_at {K : Heap} {b n : Nat} {ys : List (List Value)} (hn : n ≤ 1000) (hg : K.get b = some (.cells true 3 ys.flatten)) (hF : Fill n n ys) : VAt K (wD n) [.int .i64 9, .int .i64 0, .slice (some ⟨b, 0, none⟩) n n] := by
  refine .mk (xs := ys) (.inl (by rw [BIG_val]; omega)) (fill_rd hn hg hF) (by rw [hF.1]; simp) (fun i x v a b => ?_)
  rw [List.getElem?_replicate] at b
  split at b
  · rename_i hi
    rw [hF.2 i hi, if_pos hi] at a
    cases a; cases b
    exact .mk (xs := []) trivial rfl rfl (fun i x v hx => by simp at hx)
  · cases b
end Go.Proofs.Ytgopamojnoefiaa

namespace Go.Proofs.Ytgopamojnoefiaa
open Go Go.Abs
set_option maxRecDepth 100000
set_option linter.unusedSimpArgs false
set_option linter.unusedVariables false

/-! ### ValMany (5) -/
noncomputable def c5 : List (Contract Try.prog) := [sizeC, checkC, numC, sameC, refSameC, worksC]
noncomputable def call5 : CallF := orC (callOf c5) (onlyC 21 in21)
theorem call5_ok : CallOk Try.prog call5 := orC_ok (callOf_ok _) (onlyC_ok in21_ok)
theorem call5_21 {args : List Value} {H : Heap} {r : CRes × Heap} (h : evFn Try.prog callCy 0 21 args H = some r) : call5 (.fn 21 args) H = some r :=
  (orC_miss (by unfold c5; (iterate 6 rw [callOf_miss (by decide)]); rfl)).trans (onlyC_hit.trans h)
structure Call5 (call : CallF) : Prop where
  works : ∀ K, call (.fn 17 []) K = some (.ret (.bool true), K)
  size : ∀ (K : Heap) (x : Value) (v : ValD), rdVal K x = some v → call (.fn 13 [x]) K = some (.ret (.int .i64 (refSize v)), K)
  check : ∀ (K : Heap) (x : Value) (v : ValD), rdVal K x = some v → v.size ≤ 1073741824 → call (.fn 12 [x]) K = some (.ret (.int .i64 (checkL v)), K)
  num : ∀ (K : Heap) (i : Int), call (.fn 11 [.int .i64 i]) K = some (.ret (.int .i64 i), K)
  same : ∀ (K : Heap) (x y : Value) (a b : ValD), rdVal K x = some a → rdVal K y = some b → call (.fn 22 [x, y]) K = some (.ret (.bool (refSameL a b)), K)
  refSame : ∀ (K : Heap) (x y : Value) (a b : ValD), rdVal K x = some a → rdVal K y = some b → a.size ≤ 1073741824 → b.size ≤ 1073741824 → call (.fn 20 [x, y]) K = some (.ret (.bool (refSameL a b)), K)
  copy : ∀ (K : Heap) (x : Value) (v : ValD), K.Wf → rdVal K x = some v → ∃ s' K', call (.fn 21 [x]) K = some (.ret (.agg #[.int .i64 (copyL v).kind, .int .i64 (copyL v).num, s']), K') ∧ Kept K K' none ∧ VOwn K.next K' (copyL v) [.int .i64 (copyL v).kind, .int .i64 (copyL v).num, s']
theorem call5_is : Call5 call5 where
  works := fun K => orC_hit (by unfold c5; (iterate 5 rw [callOf_miss (by decide)]); exact callOf_hit rfl rfl)
  size := fun K x v h => orC_hit (by unfold c5; rw [size_hit h, sizeL_eq])
  check := fun K x v h hs => orC_hit (by unfold c5; rw [callOf_miss (by decide)]; exact check_hit h hs)
  num := fun K i => orC_hit (by unfold c5; rw [callOf_miss (by decide), callOf_miss (by decide)]; exact callOf_hit rfl rfl)
  same := fun K x y a b hx hy => orC_hit (by unfold c5; (iterate 3 rw [callOf_miss (by decide)]); exact same_hit hx hy)
  refSame := fun K x y a b hx hy ha hb => orC_hit (by unfold c5; (iterate 4 rw [callOf_miss (by decide)]); exact refSame_hit hx hy ha hb)
  copy := fun K x v hw hv => let ⟨s', K', a, b, c⟩ := copy_run (lf := 0) hw hv; ⟨s', K', call5_21 a, b, c⟩

theorem many_out {call : CallF} (C : Call5 call) {H : Heap} {deep wide : Int} (h : ¬ (0 ≤ deep ∧ deep ≤ 400 ∧ 0 ≤ wide ∧ wide ≤ 400)) : evFn Try.prog call 500 5 [.int .i64 deep, .int .i64 wide] H = some (.ret (.bool true), H) := by
  have h17 := C.works H
  generalize hr : evFn Try.prog call 500 5 [.int .i64 deep, .int .i64 wide] H = out
  by_cases h1 : deep < 0
  · simp [undef, Try.f5, h1, callA, h17] at hr
    exact hr.symm
  · by_cases h2 : 400 < deep
    · simp [undef, Try.f5, h1, h2, callA, h17] at hr
      exact hr.symm
    · by_cases h3 : wide < 0
      · simp [undef, Try.f5, h1, h2, h3, callA, h17] at hr
        exact hr.symm
      · have h4 : 400 < wide := by omega
        simp [undef, Try.f5, h1, h2, h3, h4, callA, h17] at hr
        exact hr.symm

/-- What is made, and then the rest. -/
theorem many_made {call : CallF} {H : Heap} {n w : Nat} (hw : H.Wf) (hn : n ≤ 400) (hw4 : w ≤ 400) :
    ∃ env K b5 b7 s s', evFn Try.prog call 500 5 [.int .i64 n, .int .i64 w] H = fnEnd Try.prog call 500 Try.f5 (evCode Try.prog call 500 126 none (cAt Try.f5 [1, 1, 1, 1, 1, 1]) env [] K) ∧ env.val 0 = .int .i64 n ∧ env.val 1 = .int .i64 w ∧ env.val 5 = .pointer (some ⟨b5, 0, none⟩) ∧ env.val 7 = .pointer (some ⟨b7, 0, none⟩) ∧ K.Wf ∧
      K.get b5 = some (.cells true 3 [.int .i64 (vD n).kind, .int .i64 (vD n).num, s]) ∧ VAt K (vD n) [.int .i64 (vD n).kind, .int .i64 (vD n).num, s] ∧ K.get b7 = some (.cells true 3 [.int .i64 (wD w).kind, .int .i64 (wD w).num, s']) ∧ VAt K (wD w) [.int .i64 (wD w).kind, .int .i64 (wD w).num, s'] := by
  have t1 : ¬ (n : Int) < 0 := by omega
  have t2 : ¬ (400 : Int) < (n : Int) := by omega
  have t3 : ¬ (w : Int) < 0 := by omega
  have t4 : ¬ (400 : Int) < (w : Int) := by omega
  have t5 : ¬ 400 < n := by omega
  have t6 : ¬ 400 < w := by omega
  have r0 : ∃ e, evCode Try.prog call 500 126 none (cAt Try.f5 [0]) (envOf 0 [.int .i64 n, .int .i64 w] .nil) [] H = some (.normal, e, [], H) ∧ e.val 0 = .int .i64 n ∧ e.val 1 = .int .i64 w := by
    generalize hr : evCode Try.prog call 500 126 none (cAt Try.f5 [0]) (envOf 0 [.int .i64 n, .int .i64 w] .nil) [] H = out
    simp [Try.f5] at hr
    subst hr
    exact ⟨_, rfl, by simp, by simp⟩
  obtain ⟨e0, r0, a0, a1⟩ := r0
  have r1 : ∃ e, evCode Try.prog call 500 126 none (cAt Try.f5 [1, 0]) e0 [] H = some (.normal, e, [], H) ∧ e.val 0 = .int .i64 n ∧ e.val 1 = .int .i64 w := by
    generalize hr : evCode Try.prog call 500 126 none (cAt Try.f5 [1, 0]) e0 [] H = out
    simp [Try.f5, a0, a1, t1, t2, t3, t4, t5, t6] at hr
    subst hr
    exact ⟨_, rfl, by simp [a0], by simp [a1]⟩
  obtain ⟨e1, r1, b0, b1⟩ := r1
  have st := store25 (H := H) (k := 1) (n := 0) (s := .slice none 0 0) rfl
  have k1 := valIn_kept hw 1 0 (.slice none 0 0)
  have g1 := valIn_self H 1 0 (.slice none 0 0)
  generalize valIn H 1 0 (.slice none 0 0) = H1 at *
  have r2 : ∃ e, evCode Try.prog call 500 126 none (cAt Try.f5 [1, 1, 0]) e1 [] H = some (.normal, e, [], H1) ∧ e.val 0 = .int .i64 n ∧ e.val 1 = .int .i64 w ∧ e.val 5 = .pointer (some ⟨H.next, 0, none⟩) := by
    generalize hr : evCode Try.prog call 500 126 none (cAt Try.f5 [1, 1, 0]) e1 [] H = out
    simp [Try.f5, built1, st] at hr
    subst hr
    exact ⟨_, rfl, by simp [b0], by simp [b1], by simp⟩
  obtain ⟨e2, r2, c0, c1, c5⟩ := r2
  have r3 : ∃ e, evCode Try.prog call 500 126 none (cAt Try.f5 [1, 1, 1, 0, 0]) e2 [] H1 = some (.normal, e, [], H1) ∧ e.val 0 = .int .i64 n ∧ e.val 1 = .int .i64 w ∧ e.val 5 = .pointer (some ⟨H.next, 0, none⟩) ∧ e.val 6 = .int .i64 (0 : Nat) := by
    generalize hr : evCode Try.prog call 500 126 none (cAt Try.f5 [1, 1, 1, 0, 0]) e2 [] H1 = out
    simp [Try.f5] at hr
    subst hr
    exact ⟨_, rfl, by simp [c0], by simp [c1], by simp [c5], by simp⟩
  obtain ⟨e3, r3, d0, d1, d5, d6⟩ := r3
  obtain ⟨e4, K, s, r4, f0, f1, f5, hwK, gK, hv⟩ := m1_loop (call := call) (lf := 500) (b5 := H.next) hn n 0 500 e3 H1 (.slice none 0 0) (by omega) (by omega) k1.wf g1 (.mk (xs := []) ⟨rfl, trivial, .inl rfl⟩ rfl (fun i x v hx => by simp at hx)) d0 d5 d6
  have mk := make_slice (H := K) (n := w) (by omega)
  have k2 := (Kept.refl hwK none).push (.cells true 3 (List.replicate w [Value.int .i64 0, .int .i64 0, .slice none 0 0]).flatten)
  have g2 := get_push_self K (.cells true 3 (List.replicate w [Value.int .i64 0, .int .i64 0, .slice none 0 0]).flatten)
  have n2 : (K.push (.cells true 3 (List.replicate w [Value.int .i64 0, .int .i64 0, .slice none 0 0]).flatten)).next = K.next + 1 := rfl
  generalize K.push (.cells true 3 (List.replicate w [Value.int .i64 0, .int .i64 0, .slice none 0 0]).flatten) = K2 at *
  have st3 := store25 (H := K2) (k := 9) (n := 0) (s := .slice (some ⟨K.next, 0, none⟩) w w) rfl
  have k3 := valIn_kept k2.wf 9 0 (.slice (some ⟨K.next, 0, none⟩) w w)
  have g3 := valIn_self K2 9 0 (.slice (some ⟨K.next, 0, none⟩) w w)
  generalize valIn K2 9 0 (.slice (some ⟨K.next, 0, none⟩) w w) = K3 at *
  have r5 : ∃ e, evCode Try.prog call 500 126 none (cAt Try.f5 [1, 1, 1, 1, 0]) e4 [] K = some (.normal, e, [], K3) ∧ e.val 0 = .int .i64 n ∧ e.val 1 = .int .i64 w ∧ e.val 5 = .pointer (some ⟨H.next, 0, none⟩) ∧ e.val 7 = .pointer (some ⟨K2.next, 0, none⟩) := by
    have x1 := f1.trans d1
    generalize hr : evCode Try.prog call 500 126 none (cAt Try.f5 [1, 1, 1, 1, 0]) e4 [] K = out
    simp [Try.f5, x1, mk, built2, st3] at hr
    subst hr
    exact ⟨_, rfl, by simp [f0, d0], by simp [x1], by simp [f5, d5], by simp⟩
  obtain ⟨e5, r5, h0, h1, h5, h7⟩ := r5
  have r6 : ∃ e, evCode Try.prog call 500 126 none (cAt Try.f5 [1, 1, 1, 1, 1, 0, 0]) e5 [] K3 = some (.normal, e, [], K3) ∧ e.val 0 = .int .i64 n ∧ e.val 1 = .int .i64 w ∧ e.val 5 = .pointer (some ⟨H.next, 0, none⟩) ∧ e.val 7 = .pointer (some ⟨K2.next, 0, none⟩) ∧ e.val 8 = .int .i64 (0 : Nat) := by
    generalize hr : evCode Try.prog call 500 126 none (cAt Try.f5 [1, 1, 1, 1, 1, 0, 0]) e5 [] K3 = out
    simp [Try.f5] at hr
    subst hr
    exact ⟨_, rfl, by simp [h0], by simp [h1], by simp [h5], by simp [h7], by simp⟩
  obtain ⟨e6, r6, i0, i1, i5, i7, i8⟩ := r6
  have g23 := k3.of_get k2.wf g2 (by simp)
  obtain ⟨e7, K4, ys, r7, j0, j1, j5, j7, k4, g74, gb4, hF⟩ := m2_loop (call := call) (lf := 500) (H0 := K) (b7 := K2.next) (b := K.next) (n := w) hwK hw4 (Nat.le_refl _) (by omega) (by omega) (fun K' hK => by simp [loadA, hK]) w 0 500 e6 K3 (List.replicate w [Value.int .i64 0, .int .i64 0, .slice none 0 0]) (by omega) (by omega) (k2.trans k3) g3 g23 ⟨by simp, fun j hj => by rw [List.getElem?_replicate, if_pos hj, if_neg (by omega)]⟩ i1 i7 i8
  refine ⟨e7, K4, H.next, K2.next, s, .slice (some ⟨K.next, 0, none⟩) w w, ?_, j0.trans i0, j1.trans i1, j5.trans i5, j7.trans i7, k4.wf, k4.of_get hwK gK (by simp), (hv.at).ext (k4.ext hwK), g74, wD_at (by omega) gb4 hF⟩
  have q1 : evCode Try.prog call 500 126 none (cAt Try.f5 [1, 1, 1, 0]) e2 [] H1 = some (.normal, e4, [], K) := by
    rw [ev_then (c := cAt Try.f5 [1, 1, 1, 0]) (b := cAt Try.f5 [1, 1, 1, 0, 1]) rfl r3, show cAt Try.f5 [1, 1, 1, 0, 1] = .block 0 (.loop (cAt Try.f5 pM1)) from rfl, evCode_block, evCode_loop, r4]
    rfl
  have q2 : evCode Try.prog call 500 126 none (cAt Try.f5 [1, 1, 1, 1, 1, 0]) e5 [] K3 = some (.normal, e7, [], K4) := by
    rw [ev_then (c := cAt Try.f5 [1, 1, 1, 1, 1, 0]) (b := cAt Try.f5 [1, 1, 1, 1, 1, 0, 1]) rfl r6, show cAt Try.f5 [1, 1, 1, 1, 1, 0, 1] = .block 2 (.loop (cAt Try.f5 pM2)) from rfl, evCode_block, evCode_loop, r7]
    rfl
  rw [evFn_at Try.func5 body5 (by simp), Try.ntmps5, ev_then (c := cAt Try.f5 []) (b := cAt Try.f5 [1]) rfl r0, ev_then (c := cAt Try.f5 [1]) (b := cAt Try.f5 [1, 1]) rfl r1, ev_then (c := cAt Try.f5 [1, 1]) (b := cAt Try.f5 [1, 1, 1]) rfl r2, ev_then (c := cAt Try.f5 [1, 1, 1]) (b := cAt Try.f5 [1, 1, 1, 1]) rfl q1, ev_then (c := cAt Try.f5 [1, 1, 1, 1]) (b := cAt Try.f5 [1, 1, 1, 1, 1]) rfl r5, ev_then (c := cAt Try.f5 [1, 1, 1, 1, 1]) (b := cAt Try.f5 [1, 1, 1, 1, 1, 1]) rfl q2]
end Go.Proofs.Ytgopamojnoefiaa

namespace Go.Proofs.Ytgopamojnoefiaa
open Go Go.Abs
set_option maxRecDepth 100000
set_option linter.unusedSimpArgs false
set_option linter.unusedVariables false

theorem mt_R13 {call : CallF} {env : Env} {K : Heap} {n : Nat} (hn : n ≤ 400) (e0 : env.val 0 = .int .i64 (n : Int)) :
    ∃ env', evCode Try.prog call 500 126 none (cAt Try.f5 [1, 1, 1, 1, 1, 1, 0]) env [] K = some (.normal, env', [], K) ∧ env'.val 0 = env.val 0 ∧ env'.val 1 = env.val 1 ∧ env'.val 5 = env.val 5 ∧ env'.val 7 = env.val 7 ∧ env'.val 9 = .int .i64 ((1 + 2 * n : Nat) : Int) := by
  have w1 : IntKind.i64.wrap (2 * (n : Int)) = 2 * (n : Int) := wrapI (by omega) (by omega)
  have w2 : IntKind.i64.wrap (1 + 2 * (n : Int)) = 1 + 2 * (n : Int) := wrapI (by omega) (by omega)
  generalize hr : evCode Try.prog call 500 126 none (cAt Try.f5 [1, 1, 1, 1, 1, 1, 0]) env [] K = out
  simp [Try.f5, e0, w1, w2] at hr
  subst hr
  exact ⟨_, rfl, by simp [e0], by simp, by simp, by simp, by simp⟩
theorem mt_R14 {call : CallF} (C : Call5 call) {env : Env} {K : Heap} {n w b5 b7 : Nat} {s s' : Value} (hn : n ≤ 400) (hw : w ≤ 400) (e1 : env.val 1 = .int .i64 (w : Int)) (e5 : env.val 5 = .pointer (some ⟨b5, 0, none⟩)) (e7 : env.val 7 = .pointer (some ⟨b7, 0, none⟩)) (e9 : env.val 9 = .int .i64 ((1 + 2 * n : Nat) : Int))
    (la : loadA Try.prog 25 K b5 0 = some (.agg #[.int .i64 (vD n).kind, .int .i64 (vD n).num, s])) (lb : loadA Try.prog 25 K b7 0 = some (.agg #[.int .i64 (wD w).kind, .int .i64 (wD w).num, s'])) (hva : VAt K (vD n) [.int .i64 (vD n).kind, .int .i64 (vD n).num, s]) (hvb : VAt K (wD w) [.int .i64 (wD w).kind, .int .i64 (wD w).num, s']) :
    ∃ env', evCode Try.prog call 500 126 none (cAt Try.f5 [1, 1, 1, 1, 1, 1, 1, 0]) env [] K = some (.normal, env', [], K) ∧ env'.val 1 = env.val 1 ∧ env'.val 5 = env.val 5 ∧ env'.val 7 = env.val 7 ∧ env'.val 9 = env.val 9 := by
  have c1 := C.size K _ _ (rdVal_of hva)
  have c2 := C.size K _ _ (rdVal_of hvb)
  have c3 := C.check K _ _ (rdVal_of hva) (by rw [vD_size]; omega)
  have c4 := C.check K _ _ (rdVal_of hvb) (by rw [wD_size]; omega)
  have c11 := C.num K
  have w1 : IntKind.i64.wrap (1 + (w : Int)) = ((1 + w : Nat) : Int) := by rw [wrapI (by omega) (by omega)]; omega
  have hA : refSize (vD n) = (if 257 < 1 + 2 * n then (257 : Int) else ((1 + 2 * n : Nat) : Int)) := by unfold refSize; rw [vD_size]; split <;> omega
  have hB : refSize (wD w) = (if 257 < 1 + w then (257 : Int) else ((1 + w : Nat) : Int)) := by unfold refSize; rw [wD_size]; split <;> omega
  have hC : checkL (vD n) = if 1 + 2 * n ≤ 256 then 0 else 40 := by
    unfold checkL; rw [vD_right]
    by_cases h : 1 + 2 * n ≤ 256 <;> simp [h]
  have hD : checkL (wD w) = if w ≤ 16 then 0 else 40 := by
    unfold checkL; rw [wD_right]
    by_cases h : w ≤ 16 <;> simp [h]
  rw [hA] at c1
  rw [hB] at c2
  rw [hC] at c3
  rw [hD] at c4
  generalize (vD n).kind = kv at *
  generalize (vD n).num = nv at *
  generalize (wD w).kind = kw at *
  generalize (wD w).num = nw at *
  generalize hN : 1 + 2 * n = N at *
  generalize hW : 1 + w = W at *
  have i1 : ((257 : Int) < (N : Int)) ↔ 257 < N := by omega
  have i2 : ((257 : Int) < (W : Int)) ↔ 257 < W := by omega
  generalize hr : evCode Try.prog call 500 126 none (cAt Try.f5 [1, 1, 1, 1, 1, 1, 1, 0]) env [] K = out
  by_cases h1 : N ≤ 256
  · have h1' : (N : Int) ≤ 256 := by omega
    rw [if_pos h1] at c3
    by_cases h2 : w ≤ 16
    · have h2' : (w : Int) ≤ 16 := by omega
      rw [if_pos h2] at c4
      simp [Try.f5, eqA, Try.underlying4, e1, e5, e7, e9, la, lb, callA, c1, c2, c3, c4, c11, w1, i1, i2, h1, h1', h2, h2'] at hr
      subst hr
      exact ⟨_, rfl, by simp [e1], by simp [e5], by simp [e7], by simp [e9]⟩
    · have h2' : ¬ (w : Int) ≤ 16 := by omega
      rw [if_neg h2] at c4
      simp [Try.f5, eqA, Try.underlying4, e1, e5, e7, e9, la, lb, callA, c1, c2, c3, c4, c11, w1, i1, i2, h1, h1', h2, h2'] at hr
      subst hr
      exact ⟨_, rfl, by simp [e1], by simp [e5], by simp [e7], by simp [e9]⟩
  · have h1' : ¬ (N : Int) ≤ 256 := by omega
    rw [if_neg h1] at c3
    by_cases h2 : w ≤ 16
    · have h2' : (w : Int) ≤ 16 := by omega
      rw [if_pos h2] at c4
      simp [Try.f5, eqA, Try.underlying4, e1, e5, e7, e9, la, lb, callA, c1, c2, c3, c4, c11, w1, i1, i2, h1, h1', h2, h2'] at hr
      subst hr
      exact ⟨_, rfl, by simp [e1], by simp [e5], by simp [e7], by simp [e9]⟩
    · have h2' : ¬ (w : Int) ≤ 16 := by omega
      rw [if_neg h2] at c4
      simp [Try.f5, eqA, Try.underlying4, e1, e5, e7, e9, la, lb, callA, c1, c2, c3, c4, c11, w1, i1, i2, h1, h1', h2, h2'] at hr
      subst hr
      exact ⟨_, rfl, by simp [e1], by simp [e5], by simp [e7], by simp [e9]⟩
end Go.Proofs.Ytgopamojnoefiaa

namespace Go.Proofs.Ytgopamojnoefiaa
open Go Go.Abs
set_option maxRecDepth 100000
set_option linter.unusedSimpArgs false
set_option linter.unusedVariables false

theorem mt_R16 {call : CallF} (C : Call5 call) {env : Env} {K : Heap} {b5 b7 : Nat} {s s' : Value} {v w : ValD} (hwK : K.Wf) (e5 : env.val 5 = .pointer (some ⟨b5, 0, none⟩)) (e7 : env.val 7 = .pointer (some ⟨b7, 0, none⟩))
    (ga : K.get b5 = some (.cells true 3 [.int .i64 v.kind, .int .i64 v.num, s])) (gb : K.get b7 = some (.cells true 3 [.int .i64 w.kind, .int .i64 w.num, s'])) (hva : VAt K v [.int .i64 v.kind, .int .i64 v.num, s]) (hvb : VAt K w [.int .i64 w.kind, .int .i64 w.num, s']) :
    ∃ env' K' sc sd, evCode Try.prog call 500 126 none (cAt Try.f5 [1, 1, 1, 1, 1, 1, 1, 1, 0]) env [] K = some (.normal, env', [], K') ∧ env'.val 1 = env.val 1 ∧ env'.val 5 = env.val 5 ∧ env'.val 7 = env.val 7 ∧ env'.val 9 = env.val 9 ∧ env'.val 10 = .pointer (some ⟨K.next, 0, none⟩) ∧ env'.val 11 = .pointer (some ⟨K.next + 1, 0, none⟩) ∧ Kept K K' none ∧
      K'.get K.next = some (.cells true 3 [.int .i64 (copyL v).kind, .int .i64 (copyL v).num, sc]) ∧ K'.get (K.next + 1) = some (.cells true 3 [.int .i64 (copyL w).kind, .int .i64 (copyL w).num, sd]) ∧ VAt K' (copyL v) [.int .i64 (copyL v).kind, .int .i64 (copyL v).num, sc] ∧ VAt K' (copyL w) [.int .i64 (copyL w).kind, .int .i64 (copyL w).num, sd] := by
  obtain ⟨_, ea, sa, oa, _, z0a⟩ := hva.one
  simp only [List.cons.injEq, true_and, and_true] at ea
  subst ea
  obtain ⟨_, eb, sb, ob, vb, z0b⟩ := hvb.one
  simp only [List.cons.injEq, true_and, and_true] at eb
  subst eb
  have k0 := ((Kept.refl hwK none).push (.cells true 3 [.int .i64 0, .int .i64 0, .slice none 0 0])).push (.cells true 3 [.int .i64 0, .int .i64 0, .slice none 0 0])
  have y0 : ((K.push (.cells true 3 [.int .i64 0, .int .i64 0, .slice none 0 0])).push (.cells true 3 [.int .i64 0, .int .i64 0, .slice none 0 0])).get K.next = some (.cells true 3 [.int .i64 0, .int .i64 0, .slice none 0 0]) := by rw [get_push_ne (by simp), get_push_self]
  have y1 : ((K.push (.cells true 3 [.int .i64 0, .int .i64 0, .slice none 0 0])).push (.cells true 3 [.int .i64 0, .int .i64 0, .slice none 0 0])).get (K.next + 1) = some (.cells true 3 [.int .i64 0, .int .i64 0, .slice none 0 0]) := get_push_self (K.push _) _
  have n0 : ((K.push (.cells true 3 [.int .i64 0, .int .i64 0, .slice none 0 0])).push (.cells true 3 [.int .i64 0, .int .i64 0, .slice none 0 0])).next = K.next + 2 := rfl
  generalize hK0 : (K.push (.cells true 3 [.int .i64 0, .int .i64 0, .slice none 0 0])).push (.cells true 3 [.int .i64 0, .int .i64 0, .slice none 0 0]) = K0 at *
  have l0 : loadA Try.prog 25 K0 b5 0 = some (.agg #[.int .i64 v.kind, .int .i64 v.num, s]) := by simp [loadA, k0.of_get hwK ga (by simp)]
  have m0 : loadA Try.prog 25 K0 b7 0 = some (.agg #[.int .i64 w.kind, .int .i64 w.num, s']) := by simp [loadA, k0.of_get hwK gb (by simp)]
  obtain ⟨sc, K1, cc, k1, ho1⟩ := C.copy K0 _ v k0.wf (rdVal_of (hva.ext (k0.ext hwK)))
  have k01 := k0.trans k1
  have l1 : loadA Try.prog 25 K1 b7 0 = some (.agg #[.int .i64 w.kind, .int .i64 w.num, s']) := by simp [loadA, k01.of_get hwK gb (by simp)]
  have x0 := k1.of_get k0.wf y0 (by simp)
  have x1 := k1.of_get k0.wf y1 (by simp)
  obtain ⟨sd, K2, cd, k2, ho2⟩ := C.copy K1 _ w k1.wf (rdVal_of (hvb.ext (k01.ext hwK)))
  have w0 := k2.of_get k1.wf x0 (by simp)
  have w1 := k2.of_get k1.wf x1 (by simp)
  obtain ⟨_, xs1, e1, r1, _⟩ := ho1.inv
  simp only [List.cons.injEq, true_and, and_true] at e1
  subst e1
  obtain ⟨_, xs2, e2, r2, _⟩ := ho2.inv
  simp only [List.cons.injEq, true_and, and_true] at e2
  subst e2
  obtain ⟨c1, o1, v1, q1⟩ := r1.one
  obtain ⟨c2, o2, v2, q2⟩ := r2.one
  have st1 : storeA Try.prog 25 K2 K.next 0 (.agg #[.int .i64 (copyL v).kind, .int .i64 (copyL v).num, sc]) = some (K2.set K.next (.cells true 3 [.int .i64 (copyL v).kind, .int .i64 (copyL v).num, sc])) := by simp [storeA, w0, o1, putL]
  have w1' : (K2.set K.next (.cells true 3 [.int .i64 (copyL v).kind, .int .i64 (copyL v).num, sc])).get (K.next + 1) = some (.cells true 3 [.int .i64 0, .int .i64 0, .slice none 0 0]) := by rw [get_set_ne (by omega)]; exact w1
  have st2 : storeA Try.prog 25 (K2.set K.next (.cells true 3 [.int .i64 (copyL v).kind, .int .i64 (copyL v).num, sc])) (K.next + 1) 0 (.agg #[.int .i64 (copyL w).kind, .int .i64 (copyL w).num, sd]) = some ((K2.set K.next (.cells true 3 [.int .i64 (copyL v).kind, .int .i64 (copyL v).num, sc])).set (K.next + 1) (.cells true 3 [.int .i64 (copyL w).kind, .int .i64 (copyL w).num, sd])) := by simp [storeA, w1', o2, putL]
  have hl0 := k2.wf.lt w0
  have hl1 := k2.wf.lt w1
  have hx1 : SameFrom K0.next K1 ((K2.set K.next (.cells true 3 [.int .i64 (copyL v).kind, .int .i64 (copyL v).num, sc])).set (K.next + 1) (.cells true 3 [.int .i64 (copyL w).kind, .int .i64 (copyL w).num, sd])) := (kept_from k2 k1.wf _).trans ((SameFrom.set (by omega) _).trans (SameFrom.set (by omega) _))
  have hx2 : SameFrom K1.next K2 ((K2.set K.next (.cells true 3 [.int .i64 (copyL v).kind, .int .i64 (copyL v).num, sc])).set (K.next + 1) (.cells true 3 [.int .i64 (copyL w).kind, .int .i64 (copyL w).num, sd])) := (SameFrom.set (by have := k1.le; omega) _).trans (SameFrom.set (by have := k1.le; omega) _)
  have kk : Kept K ((K2.set K.next (.cells true 3 [.int .i64 (copyL v).kind, .int .i64 (copyL v).num, sc])).set (K.next + 1) (.cells true 3 [.int .i64 (copyL w).kind, .int .i64 (copyL w).num, sd])) none := ((k01.trans k2).set (Nat.le_refl _) hl0 _).set (by omega) (by simpa using hl1) _
  generalize hr : evCode Try.prog call 500 126 none (cAt Try.f5 [1, 1, 1, 1, 1, 1, 1, 1, 0]) env [] K = out
  simp [Try.f5] at hr
  rw [evDraw_held (tab := [(2, [1])]) (atab := [(0, (25, [1, 3, 6])), (1, (25, [1, 3, 6]))]) (al := [(4, (10, 25)), (5, (11, 25))])] at hr
  · simp [e5, e7, hK0, l0, m0, l1, callA, cc, cd, st1, st2, y0, y1, x0, x1, w0, w1, oa, z0a, ob, z0b, vb] at hr
    subst hr
    exact ⟨_, _, sc, sd, rfl, by simp, by simp [e5], by simp [e7], by simp, by simp, by simp, kk, by rw [get_set_ne (by omega)]; exact get_set_self _ _ _, get_set_self _ _ _, (ho1.from hx1).at, (ho2.from hx2).at⟩
  · kernel_rfl
  · kernel_rfl
  · kernel_rfl
  · kernel_rfl
  · kernel_rfl
end Go.Proofs.Ytgopamojnoefiaa

namespace Go.Proofs.Ytgopamojnoefiaa
open Go Go.Abs
set_option maxRecDepth 100000
set_option linter.unusedSimpArgs false
set_option linter.unusedVariables false

theorem mt_R17 {call : CallF} (C : Call5 call) {env : Env} {K : Heap} {n w b5 b7 b10 b11 : Nat} {s s' sc sd : Value} (hn : n ≤ 400) (hw : w ≤ 400) (e1 : env.val 1 = .int .i64 (w : Int)) (e5 : env.val 5 = .pointer (some ⟨b5, 0, none⟩)) (e7 : env.val 7 = .pointer (some ⟨b7, 0, none⟩)) (e9 : env.val 9 = .int .i64 ((1 + 2 * n : Nat) : Int)) (e10 : env.val 10 = .pointer (some ⟨b10, 0, none⟩)) (e11 : env.val 11 = .pointer (some ⟨b11, 0, none⟩))
    (ga : K.get b5 = some (.cells true 3 [.int .i64 (vD n).kind, .int .i64 (vD n).num, s])) (gb : K.get b7 = some (.cells true 3 [.int .i64 (wD w).kind, .int .i64 (wD w).num, s'])) (hva : VAt K (vD n) [.int .i64 (vD n).kind, .int .i64 (vD n).num, s]) (hvb : VAt K (wD w) [.int .i64 (wD w).kind, .int .i64 (wD w).num, s'])
    (gc : K.get b10 = some (.cells true 3 [.int .i64 (copyL (vD n)).kind, .int .i64 (copyL (vD n)).num, sc])) (gd : K.get b11 = some (.cells true 3 [.int .i64 (copyL (wD w)).kind, .int .i64 (copyL (wD w)).num, sd])) (hvc : VAt K (copyL (vD n)) [.int .i64 (copyL (vD n)).kind, .int .i64 (copyL (vD n)).num, sc]) (hvd : VAt K (copyL (wD w)) [.int .i64 (copyL (wD w)).kind, .int .i64 (copyL (wD w)).num, sd]) :
    ∃ env', evCode Try.prog call 500 126 none (cAt Try.f5 [1, 1, 1, 1, 1, 1, 1, 1, 1]) env [] K = some (.ret, env', [], K) ∧ env'.val 4 = .bool true := by
  have hvs := vD_size n
  have hws := wD_size w
  have la : loadA Try.prog 25 K b5 0 = some (.agg #[.int .i64 (vD n).kind, .int .i64 (vD n).num, s]) := by simp [loadA, ga]
  have lb : loadA Try.prog 25 K b7 0 = some (.agg #[.int .i64 (wD w).kind, .int .i64 (wD w).num, s']) := by simp [loadA, gb]
  have lc : loadA Try.prog 25 K b10 0 = some (.agg #[.int .i64 (copyL (vD n)).kind, .int .i64 (copyL (vD n)).num, sc]) := by simp [loadA, gc]
  have lc0 : loadA Try.prog 22 K b10 0 = some (.int .i64 (copyL (vD n)).kind) := by simp [loadA, gc]
  have ld : loadA Try.prog 25 K b11 0 = some (.agg #[.int .i64 (copyL (wD w)).kind, .int .i64 (copyL (wD w)).num, sd]) := by simp [loadA, gd]
  have h17 := C.works K
  have c1 := C.size K _ _ (rdVal_of hvc)
  have c2 := C.same K _ _ _ _ (rdVal_of hva) (rdVal_of hva)
  have c3 := C.refSame K _ _ _ _ (rdVal_of hvc) (rdVal_of hva) (by have := copyL_size (vD n); omega) (by omega)
  have c4 := C.same K _ _ _ _ (rdVal_of hva) (rdVal_of hvc)
  have c5 := C.refSame K _ _ _ _ (rdVal_of hvd) (rdVal_of hvb) (by have := copyL_size (wD w); omega) (by omega)
  generalize hr : evCode Try.prog call 500 126 none (cAt Try.f5 [1, 1, 1, 1, 1, 1, 1, 1, 1]) env [] K = out
  by_cases h1 : 1 + 2 * n ≤ 256
  · have hcv : copyL (vD n) = vD n := by unfold copyL; rw [if_pos (by omega)]
    rw [hcv] at c3 c4 lc
    rw [refSame_self (by omega)] at c3 c4
    have h5 : refSameL (copyL (wD w)) (wD w) = decide (w < 256) := by
      by_cases h2 : w < 256
      · have : copyL (wD w) = wD w := by unfold copyL; rw [if_pos (by omega)]
        rw [this, refSame_self (by omega), decide_eq_true h2]
      · unfold refSameL
        rw [decide_eq_false h2, decide_eq_false (p := (wD w).size ≤ 256) (by omega)]
        simp
    rw [h5] at c5
    have t1 : ¬ (256 : Int) < ((1 + 2 * n : Nat) : Int) := by omega
    have t2 : ¬ 256 < 1 + 2 * n := by omega
    generalize 1 + 2 * n = N at *
    generalize (vD n).kind = kv at *
    generalize (vD n).num = nv at *
    generalize (wD w).kind = kw at *
    generalize (wD w).num = nw at *
    generalize (copyL (wD w)).kind = kd at *
    generalize (copyL (wD w)).num = nd at *
    by_cases h2 : w < 256
    · have h2' : (w : Int) < 256 := by omega
      rw [decide_eq_true h2] at c5
      simp [Try.f5, eqA, Try.underlying4, e1, e5, e7, e9, e10, e11, la, lb, lc, ld, callA, t1, t2, c3, c4, c5, h2, h2', h17] at hr
      subst hr
      exact ⟨_, rfl, by simp⟩
    · have h2' : ¬ (w : Int) < 256 := by omega
      rw [decide_eq_false h2] at c5
      simp [Try.f5, eqA, Try.underlying4, e1, e5, e7, e9, e10, e11, la, lb, lc, ld, callA, t1, t2, c3, c4, c5, h2, h2', h17] at hr
      subst hr
      exact ⟨_, rfl, by simp⟩
  · have hcv : copyL (vD n) = .mk 0 0 [] := by unfold copyL; rw [if_neg (by omega)]
    rw [hcv] at c1 lc lc0
    have hz : refSize (.mk 0 0 []) = 1 := by decide
    rw [hz] at c1
    have h2 : refSameL (vD n) (vD n) = false := by unfold refSameL; rw [decide_eq_false (p := (vD n).size ≤ 256) (by omega)]; rfl
    rw [h2] at c2
    have t1 : (256 : Int) < ((1 + 2 * n : Nat) : Int) := by omega
    have t2 : 256 < 1 + 2 * n := by omega
    generalize 1 + 2 * n = N at *
    generalize (vD n).kind = kv at *
    generalize (vD n).num = nv at *
    simp only [ValD.kind, ValD.num] at lc lc0 c1
    simp [Try.f5, eqA, Try.underlying4, Try.underlying22, e1, e5, e7, e9, e10, e11, la, lc, lc0, callA, t1, t2, c1, c2, h17] at hr
    subst hr
    exact ⟨_, rfl, by simp⟩

theorem vmany_run {H : Heap} {deep wide : Int} (hw : H.Wf) : ∃ H', evFn Try.prog call5 500 5 [.int .i64 deep, .int .i64 wide] H = some (.ret (.bool true), H') := by
  have C := call5_is
  generalize call5 = call at C
  by_cases h : 0 ≤ deep ∧ deep ≤ 400 ∧ 0 ≤ wide ∧ wide ≤ 400
  · obtain ⟨n, rfl⟩ := Int.eq_ofNat_of_zero_le h.1
    obtain ⟨w, rfl⟩ := Int.eq_ofNat_of_zero_le h.2.2.1
    have hn : n ≤ 400 := by omega
    have hw4 : w ≤ 400 := by omega
    obtain ⟨e1, K, b5, b7, s, s', hfn, a0, a1, a5, a7, hwK, ga, hva, gb, hvb⟩ := many_made (call := call) hw hn hw4
    have la : loadA Try.prog 25 K b5 0 = some (.agg #[.int .i64 (vD n).kind, .int .i64 (vD n).num, s]) := by simp [loadA, ga]
    have lb : loadA Try.prog 25 K b7 0 = some (.agg #[.int .i64 (wD w).kind, .int .i64 (wD w).num, s']) := by simp [loadA, gb]
    obtain ⟨e2, r2, b0, b1, b5', b7', b9⟩ := mt_R13 (call := call) (K := K) hn a0
    obtain ⟨e3, r3, d1, d5, d7, d9⟩ := mt_R14 C hn hw4 (b1.trans a1) (b5'.trans a5) (b7'.trans a7) b9 la lb hva hvb
    obtain ⟨e4, K', sc, sd, r4, f1, f5, f7, f9, f10, f11, k4, gc, gd, hvc, hvd⟩ := mt_R16 C hwK (d5.trans (b5'.trans a5)) (d7.trans (b7'.trans a7)) ga gb hva hvb
    obtain ⟨e5, r5, g4⟩ := mt_R17 C hn hw4 (f1.trans (d1.trans (b1.trans a1))) (f5.trans (d5.trans (b5'.trans a5))) (f7.trans (d7.trans (b7'.trans a7))) (f9.trans (d9.trans b9)) f10 f11 (k4.of_get hwK ga (by simp)) (k4.of_get hwK gb (by simp)) (hva.ext (k4.ext hwK)) (hvb.ext (k4.ext hwK)) gc gd hvc hvd
    refine ⟨K', ?_⟩
    rw [hfn, ev_then (c := cAt Try.f5 [1, 1, 1, 1, 1, 1]) (b := cAt Try.f5 [1, 1, 1, 1, 1, 1, 1]) rfl r2, ev_then (c := cAt Try.f5 [1, 1, 1, 1, 1, 1, 1]) (b := cAt Try.f5 [1, 1, 1, 1, 1, 1, 1, 1]) rfl r3, ev_then (c := cAt Try.f5 [1, 1, 1, 1, 1, 1, 1, 1]) (b := cAt Try.f5 [1, 1, 1, 1, 1, 1, 1, 1, 1]) rfl r4, r5]
    simp [fnEnd, Try.f5, g4]
  · exact ⟨H, many_out C h⟩
end Go.Proofs.Ytgopamojnoefiaa
