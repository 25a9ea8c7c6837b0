/-
  A part of a proof: texts laid behind one another (W36, W37, W38, W39, W40, W41).
-/
import Derived.Test.YtpopkajkekceiaaGW4
import Derived.Test.YtpopkajkekceiaaGA4
namespace Go.Proofs.Ytpopkajkekceiaa
open Go Go.Abs
set_option maxRecDepth 100000
set_option linter.unusedSimpArgs false
set_option linter.unusedVariables false

/-! ### Nested lets, plainly -/
def boundsN : Nat → Nat → List NodeD
  | _, 0 => [⟨2, 0, []⟩]
  | i, d + 1 => ⟨4, 0, [2 * (i : Int) + 1, 2 * (i : Int) + 2]⟩ :: ⟨2, 0, []⟩ :: boundsN (i + 1) d
theorem boundsN_length : ∀ (d i : Nat), (boundsN i d).length = 2 * d + 1
  | 0, i => rfl
  | d + 1, i => by simp only [boundsN, List.length_cons, boundsN_length d]; omega

structure BInv (n i : Nat) (v : Int) (ps : List Pl) : Prop where
  len : ps.length = n
  here : ∃ a, ps[2 * i]? = some ⟨a, v, true⟩
  free : ∀ j, 2 * i < j → j < n → ∃ p, ps[j]? = some p ∧ p.has = false

theorem within_v {a b c v : Int} (h : b ≤ a ∧ a ≤ c) (hv0 : 0 ≤ v) : withinL [a, b, c, v, 0, 64] = decide (v ≤ 64) := by
  simp only [withinL]
  rw [if_neg (by omega)]
  by_cases hv : v ≤ 64
  · rw [if_neg (by omega), decide_eq_true hv]
  · rw [if_pos (by omega), decide_eq_false hv]

theorem leaf_step {n i : Nat} {ps : List Pl} {a v : Int} (h : ps[i]? = some ⟨a, v, true⟩) (hv0 : 0 ≤ v) : nodeStep n i ⟨2, 0, []⟩ ps = if v ≤ 64 then some ps else none := by
  have hw : withinL [(([] : List Int).length : Int), (shapeOf (2 : Int).toNat).2.1, (shapeOf (2 : Int).toNat).2.2, v, 0, 64] = decide (v ≤ 64) := within_v (by decide) hv0
  have hno : numberOk (shapeOf (2 : Int).toNat).1 0 v = true := rfl
  simp only [nodeStep, h]
  rw [if_pos (show True ∧ (0 : Int) ≤ _ ∧ _ from ⟨trivial, by decide, by decide⟩), hw, hno]
  by_cases hv : v ≤ 64
  · rw [if_pos hv, if_pos ⟨rfl, decide_eq_true hv⟩]; rfl
  · rw [if_neg hv, if_neg (fun h => hv (of_decide_eq_true h.2))]
theorem let_step {n i : Nat} {ps : List Pl} {v : Int} (h : BInv n i v ps) (hn : 2 * i + 2 < n) (hv0 : 0 ≤ v) :
    nodeStep n (2 * i) ⟨4, 0, [2 * (i : Int) + 1, 2 * (i : Int) + 2]⟩ ps = if v ≤ 64 then some ((ps.set (2 * i + 1) ⟨((2 * i : Nat) : Int), v, true⟩).set (2 * i + 2) ⟨((2 * i : Nat) : Int), v + 1, true⟩) else none := by
  obtain ⟨a, ha⟩ := h.here
  have hw : withinL [(([2 * (i : Int) + 1, 2 * (i : Int) + 2] : List Int).length : Int), (shapeOf (4 : Int).toNat).2.1, (shapeOf (4 : Int).toNat).2.2, v, 0, 64] = decide (v ≤ 64) := within_v (by simp only [List.length_cons, List.length_nil]; decide) hv0
  have hno : numberOk (shapeOf (4 : Int).toNat).1 0 v = true := rfl
  simp only [nodeStep, ha]
  rw [if_pos (show True ∧ (0 : Int) ≤ _ ∧ _ from ⟨trivial, by decide, by decide⟩), hw, hno]
  by_cases hv : v ≤ 64
  · rw [if_pos hv, if_pos ⟨rfl, decide_eq_true hv⟩]
    obtain ⟨p1, hp1, hh1⟩ := h.free (2 * i + 1) (by omega) (by omega)
    obtain ⟨p2, hp2, hh2⟩ := h.free (2 * i + 2) (by omega) (by omega)
    have t1 : (2 * (i : Int) + 1).toNat = 2 * i + 1 := by omega
    have t2 : (2 * (i : Int) + 2).toNat = 2 * i + 2 := by omega
    simp only [lookKids, t1, t2]
    rw [if_pos (by omega), hp1]
    simp only [hh1]
    rw [if_neg (by simp), if_pos (by omega), List.getElem?_set_ne (by omega), hp2]
    simp only [hh2]
    rw [if_neg (by simp)]
    simp
  · rw [if_neg hv, if_neg (fun h => hv (of_decide_eq_true h.2))]

theorem bounds_from {n : Nat} : ∀ (d i : Nat) (v : Int) (ps : List Pl), n = 2 * i + 2 * d + 1 → 0 ≤ v → v ≤ 65 → BInv n i v ps →
    (v + d ≤ 64 → ∃ ps' a, lookFrom n (2 * i) (boundsN i d) ps = .ok ps' ∧ ps'[2 * (i + d)]? = some ⟨a, v + d, true⟩) ∧
    (64 < v + d → ∃ k, lookFrom n (2 * i) (boundsN i d) ps = .error k ∧ (k : Int) = 2 * (i + 65 - v))
  | 0, i, v, ps, hn, hv0, hv, hI => by
    obtain ⟨a, ha⟩ := hI.here
    simp only [boundsN]
    rw [lookFrom_cons, leaf_step ha hv0]
    constructor
    · intro h
      rw [if_pos (by omega)]
      exact ⟨ps, a, rfl, by simpa using ha⟩
    · intro h
      rw [if_neg (by omega)]
      exact ⟨_, rfl, by omega⟩
  | d + 1, i, v, ps, hn, hv0, hv, hI => by
    simp only [boundsN]
    rw [lookFrom_cons, let_step hI (by omega) hv0]
    by_cases hv64 : v ≤ 64
    · rw [if_pos hv64]
      simp only
      have hlen := hI.len
      have h1 : ((ps.set (2 * i + 1) ⟨((2 * i : Nat) : Int), v, true⟩).set (2 * i + 2) ⟨((2 * i : Nat) : Int), v + 1, true⟩)[2 * i + 1]? = some ⟨((2 * i : Nat) : Int), v, true⟩ := by
        rw [List.getElem?_set_ne (by omega), List.getElem?_set_self (by omega)]
      rw [lookFrom_cons, leaf_step h1 hv0, if_pos hv64]
      simp only
      have hI2 : BInv n (i + 1) (v + 1) ((ps.set (2 * i + 1) ⟨((2 * i : Nat) : Int), v, true⟩).set (2 * i + 2) ⟨((2 * i : Nat) : Int), v + 1, true⟩) := by
        refine ⟨by simpa using hlen, ⟨((2 * i : Nat) : Int), ?_⟩, fun j h1 h2 => ?_⟩
        · rw [show 2 * (i + 1) = 2 * i + 2 by omega, List.getElem?_set_self (by simp; omega)]
        · rw [List.getElem?_set_ne (by omega), List.getElem?_set_ne (by omega)]
          exact hI.free j (by omega) h2
      obtain ⟨g1, g2⟩ := bounds_from d (i + 1) (v + 1) _ (by omega) (by omega) (by omega) hI2
      rw [show 2 * i + 1 + 1 = 2 * (i + 1) by omega]
      constructor
      · intro h
        obtain ⟨ps', a, e1, e2⟩ := g1 (by omega)
        refine ⟨ps', a, e1, ?_⟩
        rw [show 2 * (i + (d + 1)) = 2 * (i + 1 + d) by omega, e2]
        congr 2
        omega
      · intro h
        obtain ⟨k, e1, e2⟩ := g2 (by omega)
        exact ⟨k, e1, by omega⟩
    · rw [if_neg hv64]
      constructor
      · intro h; omega
      · intro h; exact ⟨_, rfl, by omega⟩

theorem bounds_looked (lets : Nat) (params : Int) :
    (params < 0 ∨ 9 < params ∨ 99 < lets → lookedL ⟨params, boundsN 0 lets⟩ = .error 0) ∧
    (¬ (params < 0 ∨ 9 < params ∨ 99 < lets) → 64 < params + lets → ∃ k, lookedL ⟨params, boundsN 0 lets⟩ = .error k ∧ (k : Int) = 2 * (65 - params)) ∧
    (¬ (params < 0 ∨ 9 < params ∨ 99 < lets) → params + lets ≤ 64 → ∃ ps a, lookedL ⟨params, boundsN 0 lets⟩ = .ok ps ∧ ps[2 * lets]? = some ⟨a, params + lets, true⟩) := by
  have hl := boundsN_length lets 0
  refine ⟨fun h => ?_, ?_⟩
  · unfold lookedL
    simp only
    rw [if_neg]
    intro h2
    simp only [withinL, hl] at h2
    split at h2
    · cases h2
    · rw [if_pos (by omega)] at h2; cases h2
  · have hgo : ¬ (params < 0 ∨ 9 < params ∨ 99 < lets) → lookedL ⟨params, boundsN 0 lets⟩ = lookFrom (2 * lets + 1) (2 * 0) (boundsN 0 lets) ((List.replicate (2 * lets + 1) ⟨0, 0, false⟩).set 0 ⟨0, params, true⟩) := by
      intro h
      unfold lookedL
      simp only [hl]
      rw [if_pos]
      simp only [withinL]
      rw [if_neg (by omega), if_neg (by omega)]
    have hI : BInv (2 * lets + 1) 0 params ((List.replicate (2 * lets + 1) ⟨0, 0, false⟩).set 0 ⟨0, params, true⟩) := by
      refine ⟨by simp, ⟨0, by rw [List.getElem?_set_self (by simp)]⟩, fun j h1 h2 => ?_⟩
      rw [List.getElem?_set_ne (by omega), List.getElem?_replicate, if_pos h2]
      exact ⟨_, rfl, rfl⟩
    constructor
    · intro h h64
      rw [hgo h]
      obtain ⟨_, g2⟩ := bounds_from lets 0 params _ (by omega) (by omega) (by omega) hI
      obtain ⟨k, e1, e2⟩ := g2 (by omega)
      exact ⟨k, e1, by omega⟩
    · intro h h64
      rw [hgo h]
      obtain ⟨g1, _⟩ := bounds_from lets 0 params _ (by omega) (by omega) (by omega) hI
      obtain ⟨ps', a, e1, e2⟩ := g1 (by omega)
      exact ⟨ps', a, e1, by rw [← e2]; congr 1; omega⟩

theorem bounds_where (lets : Nat) (params : Int) : whereL ⟨params, boundsN 0 lets⟩ = if params < 0 ∨ 9 < params ∨ 99 < lets then (0, 60) else if 64 < params + lets then (2 * (65 - params), 60) else (0, 0) := by
  obtain ⟨h1, h2, h3⟩ := bounds_looked lets params
  unfold whereL
  split
  · rename_i ps hps
    split
    · rename_i h; rw [h1 h] at hps; cases hps
    · rename_i h
      split
      · rename_i h'; obtain ⟨k, e, _⟩ := h2 h h'; rw [e] at hps; cases hps
      · rfl
  · rename_i k hk
    split
    · rename_i h; rw [h1 h] at hk; cases hk; rfl
    · rename_i h
      split
      · rename_i h'; obtain ⟨k', e, e2⟩ := h2 h h'; rw [e] at hk; cases hk; rw [e2]
      · rename_i h'; obtain ⟨ps, a, e, _⟩ := h3 h (by omega); rw [e] at hk; cases hk
theorem bounds_placed {lets : Nat} {params : Int} (h : ¬ (params < 0 ∨ 9 < params ∨ 99 < lets)) (h64 : params + lets ≤ 64) : (placedL ⟨params, boundsN 0 lets⟩ (2 * (lets : Int))).1.vars = params + lets ∧ (placedL ⟨params, boundsN 0 lets⟩ (2 * (lets : Int))).2 = 0 := by
  obtain ⟨ps, a, e1, e2⟩ := (bounds_looked lets params).2.2 h h64
  have hl := boundsN_length lets 0
  unfold placedL
  rw [e1]
  simp only [hl]
  rw [if_pos (by omega)]
  simp only [List.getD_eq_getElem?_getD]
  rw [show (2 * (lets : Int)).toNat = 2 * lets by omega, e2]
  exact ⟨rfl, trivial⟩
end Go.Proofs.Ytpopkajkekceiaa

namespace Go.Proofs.Ytpopkajkekceiaa
open Go Go.Abs
set_option maxRecDepth 100000
set_option linter.unusedSimpArgs false
set_option linter.unusedVariables false

/-! ### FunBounds, walked -/
noncomputable def c5 : List (Contract Try.prog) := [worksC, numC, whereC, depthC]
noncomputable def callB : CallF := orC (callOf c5) (ev1 Try.prog (fun _ _ => none) 0)
theorem callB_ok : CallOk Try.prog callB := orC_ok (callOf_ok _) (ev1_sound noCall_ok)
theorem callB_fn {f : FuncId} {args : List Value} {H : Heap} (h1 : f ≠ 10) (h2 : f ≠ 13) (h3 : f ≠ 11) (h4 : f ≠ 15) : callB (.fn f args) H = evFn Try.prog (fun _ _ => none) 0 f args H := by
  unfold callB
  rw [orC_miss (by unfold c5; rw [callOf_miss h1, callOf_miss h2, callOf_miss h3, callOf_miss h4]; rfl)]
  rfl
theorem callB_works {H : Heap} : callB (.fn 10 []) H = some (.ret (.bool true), H) := orC_hit (callOf_hit rfl rfl)
theorem callB_num {H : Heap} {n : Int} : callB (.fn 13 [.int .i64 n]) H = some (.ret (.int .i64 n), H) := orC_hit (by unfold c5; rw [callOf_miss (by decide)]; exact callOf_hit rfl rfl)
theorem callB_where {H : Heap} {v : Value} {f : FunD} (h : rdFit H v = some f) : callB (.fn 11 [v]) H = some (.ret (.tuple #[.int .i64 (whereL f).1, .int .i64 (whereL f).2]), H) :=
  orC_hit (by unfold c5; rw [callOf_miss (by decide), callOf_miss (by decide)]; exact where_hit h)
theorem callB_depth {H : Heap} {v : Value} {f : FunD} {n : Int} (h : rdFit H v = some f) : callB (.fn 15 [v, .int .i64 n]) H = some (.ret (.tuple #[.int .i64 (placedL f n).1.vars, .int .i64 (placedL f n).2]), H) :=
  orC_hit (by
    unfold c5; rw [callOf_miss (by decide), callOf_miss (by decide), callOf_miss (by decide)]
    refine callOf_hit rfl ?_
    simp [depthC, Contract.plain, h])

theorem built40 {op n : Int} {x : Option Addr} {a c : Nat} : Try.prog.built 40 [(0, .int .i64 op), (1, .int .i64 n), (2, .slice x a c)] = some #[.int .i64 op, .int .i64 n, .slice x a c] := by kernel_rfl
theorem built24 {p : Int} {x : Option Addr} {a c : Nat} : Try.prog.built 24 [(0, .int .i64 p), (1, .slice x a c)] = some #[.int .i64 p, .slice x a c] := by kernel_rfl
theorem node_run {H : Heap} {op n : Int} {x : Option Addr} {a c : Nat} {s : Value} (hsl : s = .slice x a c) (hw : H.Wf) :
    ∃ H', callB (.fn 19 [.int .i64 op, .int .i64 n, s]) H = some (.ret (.agg #[.int .i64 op, .int .i64 n, s]), H') ∧ Kept H H' none := by
  have hs : oneC s = true := by subst hsl; rfl
  have st := store3 (H := H) (a := .int .i64 op) (b := .int .i64 n) (c := s) (x := .int .i64 0) (y := .int .i64 0) (z := .slice none 0 0) rfl rfl hs 40 _ info40 (by simp)
  have hb : Try.prog.built 40 [(0, .int .i64 op), (1, .int .i64 n), (2, s)] = some #[.int .i64 op, .int .i64 n, s] := by subst hsl; exact built40
  have ld : loadA Try.prog 40 ((H.push (.cells true 3 [.int .i64 0, .int .i64 0, .slice none 0 0])).set H.next (.cells true 3 [.int .i64 op, .int .i64 n, s])) H.next 0 = some (.agg #[.int .i64 op, .int .i64 n, s]) := by
    simp [loadA, get_set_self]
  refine ⟨(H.push (.cells true 3 [.int .i64 0, .int .i64 0, .slice none 0 0])).set H.next (.cells true 3 [.int .i64 op, .int .i64 n, s]), ?_, ((Kept.refl hw none).push _).set (Nat.le_refl _) (by simp) _⟩
  rw [callB_fn (by decide) (by decide) (by decide) (by decide)]
  simp [Try.f19, hb, st, ld]

theorem of_run {H : Heap} {p : Int} {x : Option Addr} {a c : Nat} {s : Value} (hsl : s = .slice x a c) (hw : H.Wf) :
    ∃ H', callB (.fn 20 [.int .i64 p, s]) H = some (.ret (.agg #[.int .i64 p, s]), H') ∧ Kept H H' none := by
  have hs : oneC s = true := by subst hsl; rfl
  have st : storeA Try.prog 24 (H.push (.cells true 2 [.int .i64 0, .slice none 0 0])) H.next 0 (.agg #[.int .i64 p, s]) = some ((H.push (.cells true 2 [.int .i64 0, .slice none 0 0])).set H.next (.cells true 2 [.int .i64 p, s])) := by
    simp [storeA, get_push_self, hs, putL]
  have hb : Try.prog.built 24 [(0, .int .i64 p), (1, s)] = some #[.int .i64 p, s] := by subst hsl; exact built24
  have ld : loadA Try.prog 24 ((H.push (.cells true 2 [.int .i64 0, .slice none 0 0])).set H.next (.cells true 2 [.int .i64 p, s])) H.next 0 = some (.agg #[.int .i64 p, s]) := by
    simp [loadA, get_set_self]
  refine ⟨(H.push (.cells true 2 [.int .i64 0, .slice none 0 0])).set H.next (.cells true 2 [.int .i64 p, s]), ?_, ((Kept.refl hw none).push _).set (Nat.le_refl _) (by simp) _⟩
  rw [callB_fn (by decide) (by decide) (by decide) (by decide)]
  simp [Try.f20, hb, st, ld]
end Go.Proofs.Ytpopkajkekceiaa

namespace Go.Proofs.Ytpopkajkekceiaa
open Go Go.Abs
set_option maxRecDepth 100000
set_option linter.unusedSimpArgs false
set_option linter.unusedVariables false

theorem app22 {H : Heap} {n m bx : Nat} {v : Value} {cs ds : List Value} (hw : H.Wf) (hv : (n = 0 ∧ v = .slice none 0 0 ∧ cs = []) ∨ ∃ b, v = .slice (some ⟨b, 0, none⟩) n BIG ∧ H.get b = some (.cells true 3 cs))
    (hcl : cs.length = n * 3) (hx : H.get bx = some (.cells true 3 ds)) (hdl : ds.length = m * 3) (hm : 0 < m) (hn : n + m ≤ 1073741824) (h1 : ds.all oneC = true) :
    ∃ H', builtinA Try.prog .append #[22, 22] [v, .slice (some ⟨bx, 0, none⟩) m m] H = some (.val (.slice (some ⟨H.next, 0, none⟩) (n + m) BIG), H') ∧ H'.get H.next = some (.cells true 3 (cs ++ ds)) ∧ Kept H H' (blockOf v) ∧ H.next < H'.next := by
  have hz : zeroA Try.prog 40 = some (.agg #[.int .i64 0, .int .i64 0, .slice none 0 0], 3) := by kernel_rfl
  have hby : Try.t40.bytes ≤ 65536 := by decide
  have hcx : cellsA H 3 (.slice (some ⟨bx, 0, none⟩) m m) = some ds := by
    simp only [cellsA, hx]
    rw [if_pos (by omega), List.drop_zero, List.take_of_length_le (by omega)]
  have hne : ¬ m = 0 := by omega
  rcases hv with ⟨rfl, rfl, rfl⟩ | ⟨b, rfl, hb⟩
  · refine ⟨H.push (.cells true 3 ds), ?_, get_push_self _ _, (Kept.refl hw _).push _, by simp⟩
    have hc0 : cellsA H 3 (.slice none 0 0) = some [] := rfl
    simp only [builtinA, appendA, elem22, hz, size40, hcx, hc0, lenA, if_true]
    rw [if_pos ⟨hby, hn, by decide, by rfl, h1⟩, if_neg hne]
    simp
  · have hlt := hw.lt hb
    have hcb : cellsA H 3 (.slice (some ⟨b, 0, none⟩) n BIG) = some cs := by
      simp only [cellsA, hb]
      rw [if_pos (by omega), List.drop_zero, List.take_of_length_le (by omega)]
    refine ⟨(H.set b .dead).push (.cells true 3 (cs ++ ds)), ?_, get_push_self (H.set b .dead) _, ((Kept.refl hw (some b)).kill hlt _).push _, by simp⟩
    simp only [builtinA, appendA, elem22, hz, size40, hcx, hcb, lenA, if_true]
    rw [if_pos ⟨hby, hn, by decide, by rfl, h1⟩, if_neg hne, if_neg (Nat.lt_irrefl _)]
    simp only [hb, if_true]
    simp

theorem build2 {H : Heap} {k0 k1 : IntKind} {a b : Int} : buildSliceA Try.prog 38 2 [(0, .int k0 a), (1, .int k1 b)] H = some (.slice (some ⟨H.next, 0, none⟩) 2 2, H.push (.cells true 1 [.int k0 a, .int k1 b])) := by rfl
theorem build22 {H : Heap} {a b a' b' : Int} {x y : Option Addr} {n c n' c' : Nat} : buildSliceA Try.prog 22 2 [(0, .agg #[.int .i64 a, .int .i64 b, .slice x n c]), (1, .agg #[.int .i64 a', .int .i64 b', .slice y n' c'])] H =
    some (.slice (some ⟨H.next, 0, none⟩) 2 2, H.push (.cells true 3 [.int .i64 a, .int .i64 b, .slice x n c, .int .i64 a', .int .i64 b', .slice y n' c'])) := by kernel_rfl
theorem build21 {H : Heap} {a b : Int} {x : Option Addr} {n c : Nat} : buildSliceA Try.prog 22 1 [(0, .agg #[.int .i64 a, .int .i64 b, .slice x n c])] H =
    some (.slice (some ⟨H.next, 0, none⟩) 1 1, H.push (.cells true 3 [.int .i64 a, .int .i64 b, .slice x n c])) := by kernel_rfl

def midN : Nat → Nat → List NodeD
  | _, 0 => []
  | i, d + 1 => ⟨4, 0, [2 * (i : Int) + 1, 2 * (i : Int) + 2]⟩ :: ⟨2, 0, []⟩ :: midN (i + 1) d
theorem midN_snoc : ∀ (d i : Nat), midN i (d + 1) = midN i d ++ [⟨4, 0, [2 * ((i + d : Nat) : Int) + 1, 2 * ((i + d : Nat) : Int) + 2]⟩, ⟨2, 0, []⟩]
  | 0, i => by simp [midN]
  | d + 1, i => by
    rw [midN, midN_snoc d (i + 1)]
    simp only [midN, List.cons_append]
    rw [show i + 1 + d = i + (d + 1) by omega]
theorem boundsN_mid : ∀ (d i : Nat), boundsN i d = midN i d ++ [⟨2, 0, []⟩]
  | 0, i => rfl
  | d + 1, i => by simp only [boundsN, midN, boundsN_mid d, List.cons_append]

/-- A node that stands in the table, whose slice is another block than the table. -/
def okX (H : Heap) (b : Option Nat) (x : List Value) : Prop := ∃ op n s node, x = [.int .i64 op, .int .i64 n, s] ∧ rdNode H x = some node ∧ (s = .slice none 0 0 ∨ ∃ c k, s = .slice (some ⟨c, 0, none⟩) k k ∧ c < H.next ∧ some c ≠ b)
theorem okX.keep {H H' : Heap} {b : Option Nat} (hk : Kept H H' b) {x : List Value} (h : okX H b x) : rdNode H' x = rdNode H x := by
  obtain ⟨op, n, s, node, rfl, h1, h2⟩ := h
  rcases h2 with rfl | ⟨c, k, rfl, h3, h4⟩
  · rfl
  · simp only [rdNode, rdInts, rdS, hk.get c h3 h4]
theorem okX.move {H H' : Heap} {b b' : Option Nat} (hk : Kept H H' b) (hb : ∀ c, b' = some c → H.next ≤ c) {x : List Value} (h : okX H b x) : okX H' b' x := by
  have hr := h.keep hk
  obtain ⟨op, n, s, node, rfl, h1, h2⟩ := h
  refine ⟨op, n, s, node, rfl, hr.trans h1, ?_⟩
  rcases h2 with rfl | ⟨c, k, rfl, h3, h4⟩
  · exact .inl rfl
  · exact .inr ⟨c, k, rfl, Nat.lt_of_lt_of_le h3 hk.le, fun e => by have := hb c e.symm; omega⟩

theorem okX.same {H H' : Heap} {b : Option Nat} (hk : Kept H H' none) {x : List Value} (h : okX H b x) : okX H' b x := by
  have hr := h.keep (hk.weak _)
  obtain ⟨op, n, s, node, rfl, h1, h2⟩ := h
  refine ⟨op, n, s, node, rfl, hr.trans h1, ?_⟩
  rcases h2 with rfl | ⟨c, k, rfl, h3, h4⟩
  · exact .inl rfl
  · exact .inr ⟨c, k, rfl, Nat.lt_of_lt_of_le h3 hk.le, h4⟩

structure LInv (H0 : Heap) (n : Nat) (nodes : List NodeD) (H : Heap) (v : Value) : Prop where
  wf0 : H0.Wf
  wf : H.Wf
  ext : Ext H0 H
  le : H0.next ≤ H.next
  tab : ∃ xs : List (List Value), xs.length = n ∧ (∀ x ∈ xs, x.length = 3 ∧ okX H (blockOf v) x) ∧ xs.mapM (rdNode H) = some nodes ∧
    ((n = 0 ∧ v = .slice none 0 0) ∨ ∃ b, v = .slice (some ⟨b, 0, none⟩) n BIG ∧ H.get b = some (.cells true 3 xs.flatten) ∧ H0.next ≤ b)

theorem mapM_congr' {α β : Type} {f g : α → Option β} : ∀ {l : List α}, (∀ x ∈ l, f x = g x) → l.mapM f = l.mapM g
  | [], _ => rfl
  | x :: l, h => by rw [List.mapM_cons, List.mapM_cons, h x (by simp), mapM_congr' fun y hy => h y (by simp [hy])]

/-- More nodes behind. -/
theorem LInv.more {H0 H H1 : Heap} {n m : Nat} {nodes : List NodeD} {v : Value} (hI : LInv H0 n nodes H v) (hk : Kept H H1 none) {bx : Nat} {ys : List (List Value)} (hy : ys.length = m) (hys : ∀ y ∈ ys, y.length = 3 ∧ okX H1 (blockOf v) y) (ho : ys.flatten.all oneC = true)
    (hbx : H1.get bx = some (.cells true 3 ys.flatten)) {more : List NodeD} (hm : ys.mapM (rdNode H1) = some more) (hm0 : 0 < m) (hn : n + m ≤ 1073741824) :
    ∃ H', builtinA Try.prog .append #[22, 22] [v, .slice (some ⟨bx, 0, none⟩) m m] H1 = some (.val (.slice (some ⟨H1.next, 0, none⟩) (n + m) BIG), H') ∧ LInv H0 (n + m) (nodes ++ more) H' (.slice (some ⟨H1.next, 0, none⟩) (n + m) BIG) := by
  obtain ⟨xs, hxl, hxs, hrd, htab⟩ := hI.tab
  have hfl : xs.flatten.length = n * 3 := by rw [flatten_length xs (es := 3) fun x hx => (hxs x hx).1, hxl]
  have hfy : ys.flatten.length = m * 3 := by rw [flatten_length ys (es := 3) fun x hx => (hys x hx).1, hy]
  have hv : (n = 0 ∧ v = .slice none 0 0 ∧ xs.flatten = []) ∨ ∃ b, v = .slice (some ⟨b, 0, none⟩) n BIG ∧ H1.get b = some (.cells true 3 xs.flatten) := by
    rcases htab with ⟨h1, h2⟩ | ⟨b, h1, h2, h3⟩
    · refine .inl ⟨h1, h2, ?_⟩
      rw [List.eq_nil_of_length_eq_zero (hxl.trans h1)]; rfl
    · exact .inr ⟨b, h1, by rw [hk.get b (hI.wf.lt h2) (by simp)]; exact h2⟩
  obtain ⟨H', e1, e2, e3, e4⟩ := app22 hk.wf hv hfl hbx hfy hm0 hn ho
  refine ⟨H', e1, hI.wf0, e3.wf, ?_, ?_, xs ++ ys, by simp [hxl, hy], ?_, ?_, .inr ⟨H1.next, rfl, by simpa using e2, Nat.le_trans hI.le hk.le⟩⟩
  · intro b ob hb
    have hb1 : b < H.next := hI.wf.lt (hI.ext b ob hb)
    rw [e3.get b (Nat.lt_of_lt_of_le hb1 hk.le), hk.get b hb1 (by simp)]
    · exact hI.ext b ob hb
    · intro e
      rcases htab with ⟨_, h2⟩ | ⟨b', h1, h2, h3⟩
      · rw [h2] at e; cases e
      · rw [h1] at e
        cases e
        have h := hI.wf0.lt hb
        change b' < _ at h
        omega
  · have := hI.le; have := hk.le; omega
  · intro x hx
    have hnew : ∀ c, blockOf (.slice (some ⟨H1.next, 0, none⟩) (n + m) BIG) = some c → H1.next ≤ c := fun c e => by cases e; exact Nat.le_refl _
    rcases List.mem_append.1 hx with hx | hx
    · exact ⟨(hxs x hx).1, ((hxs x hx).2.same hk).move e3 hnew⟩
    · exact ⟨(hys x hx).1, (hys x hx).2.move e3 hnew⟩
  · rw [List.mapM_append]
    have h1 : xs.mapM (rdNode H') = some nodes := by
      rw [← hrd]
      refine mapM_congr' fun x hx => ?_
      exact (((hxs x hx).2.same hk).keep e3).trans ((hxs x hx).2.keep (hk.weak _))
    have h2 : ys.mapM (rdNode H') = some more := by
      rw [← hm]
      exact mapM_congr' fun x hx => (hys x hx).2.keep e3
    rw [h1, h2]; rfl

def pW : List Nat := [1, 1, 1, 0, 1, 0, 0]

theorem b_round {env : Env} {H0 H : Heap} {lets i lf : Nat} {nodes : List NodeD} {v : Value} (hI : LInv H0 (2 * i) nodes H v) (hi : i < lets) (hl : lets ≤ 110) (e0 : env.val 0 = .int .i64 lets) (e5 : env.val 5 = v) (e6 : env.val 6 = .int .i64 i) :
    ∃ env' H' v', evCode Try.prog callB lf 114 none (cAt Try.f5 pW) env [] H = some (.normal, env', [], H') ∧ env'.val 0 = env.val 0 ∧ env'.val 1 = env.val 1 ∧ env'.val 5 = v' ∧ env'.val 6 = .int .i64 ((i + 1 : Nat) : Int) ∧
      LInv H0 (2 * (i + 1)) (nodes ++ [⟨4, 0, [2 * (i : Int) + 1, 2 * (i : Int) + 2]⟩, ⟨2, 0, []⟩]) H' v' := by
  have w0 : IntKind.i64.wrap (2 * (i : Int)) = 2 * (i : Int) := wrapI (by omega) (by omega)
  have w1 : IntKind.i64.wrap (2 * (i : Int) + 1) = 2 * (i : Int) + 1 := wrapI (by omega) (by omega)
  have w2 : IntKind.i64.wrap (2 * (i : Int) + 2) = 2 * (i : Int) + 2 := wrapI (by omega) (by omega)
  have w3 : IntKind.i64.wrap ((i : Int) + 1) = (i : Int) + 1 := wrapI (by omega) (by omega)
  have c1 : (i : Int) < (lets : Int) := by omega
  have k1 := (Kept.refl hI.wf none).push (.cells true 1 [.int .i64 (2 * (i : Int) + 1), .int .i64 (2 * (i : Int) + 2)])
  obtain ⟨H2, r2, k2⟩ := node_run (op := 4) (n := 0) (s := .slice (some ⟨H.next, 0, none⟩) 2 2) rfl k1.wf
  have k12 := k1.trans k2
  obtain ⟨H3, r3, k3⟩ := node_run (op := 2) (n := 0) (s := .slice none 0 0) rfl k12.wf
  have k13 := k12.trans k3
  have k14 := k13.push (.cells true 3 [.int .i64 4, .int .i64 0, .slice (some ⟨H.next, 0, none⟩) 2 2, .int .i64 2, .int .i64 0, .slice none 0 0])
  have hs1 : (H3.push (.cells true 3 [.int .i64 4, .int .i64 0, .slice (some ⟨H.next, 0, none⟩) 2 2, .int .i64 2, .int .i64 0, .slice none 0 0])).get H.next = some (.cells true 1 [.int .i64 (2 * (i : Int) + 1), .int .i64 (2 * (i : Int) + 2)]) := by
    have l1 : H.next < H2.next := Nat.lt_of_lt_of_le (by simp) k2.le
    rw [get_push_ne (by have := k3.le; omega), k3.get _ l1 (by simp), k2.get _ (by simp) (by simp)]
    exact get_push_self _ _
  have hrd : rdInts (H3.push (.cells true 3 [.int .i64 4, .int .i64 0, .slice (some ⟨H.next, 0, none⟩) 2 2, .int .i64 2, .int .i64 0, .slice none 0 0])) .i64 (.slice (some ⟨H.next, 0, none⟩) 2 2) = some [2 * (i : Int) + 1, 2 * (i : Int) + 2] := by
    simp [rdInts, rdS, hs1, capA, BIG, chunks]
  have hsm : smallN (.slice (some ⟨H.next, 0, none⟩) 2 2) = true := by rfl
  have hn1 : rdNode (H3.push (.cells true 3 [.int .i64 4, .int .i64 0, .slice (some ⟨H.next, 0, none⟩) 2 2, .int .i64 2, .int .i64 0, .slice none 0 0])) [.int .i64 4, .int .i64 0, .slice (some ⟨H.next, 0, none⟩) 2 2] = some ⟨4, 0, [2 * (i : Int) + 1, 2 * (i : Int) + 2]⟩ := by
    simp only [rdNode, hsm, hrd]
  have hn2 : ∀ H : Heap, rdNode H [.int .i64 2, .int .i64 0, .slice none 0 0] = some ⟨2, 0, []⟩ := fun _ => by rfl
  have hbv : some H.next ≠ blockOf v := by
    obtain ⟨xs, _, _, _, htab⟩ := hI.tab
    rcases htab with ⟨_, h2⟩ | ⟨b, h1, h2, h3⟩
    · rw [h2]; simp [blockOf]
    · rw [h1]; simp only [blockOf]; intro e; cases e; have := hI.wf.lt h2; omega
  obtain ⟨H', e1, hI'⟩ := hI.more (m := 2) k14 (bx := H3.next) (ys := [[.int .i64 4, .int .i64 0, .slice (some ⟨H.next, 0, none⟩) 2 2], [.int .i64 2, .int .i64 0, .slice none 0 0]]) rfl (by
      intro y hy
      simp only [List.mem_cons, List.not_mem_nil, or_false] at hy
      rcases hy with rfl | rfl
      · exact ⟨rfl, 4, 0, _, ⟨4, 0, [2 * (i : Int) + 1, 2 * (i : Int) + 2]⟩, rfl, hn1, .inr ⟨H.next, 2, rfl, by have := k13.le; have := k2.le; have := k3.le; simp at *; omega, hbv⟩⟩
      · exact ⟨rfl, 2, 0, _, ⟨2, 0, []⟩, rfl, hn2 _, .inl rfl⟩) (by rfl) (get_push_self _ _) (more := [⟨4, 0, [2 * (i : Int) + 1, 2 * (i : Int) + 2]⟩, ⟨2, 0, []⟩]) (by rw [List.mapM_cons, hn1, List.mapM_cons, hn2]; rfl) (by omega) (by omega)
  simp only [Heap.next_push] at e1 hI'
  generalize hr : evCode Try.prog callB lf 114 none (cAt Try.f5 pW) env [] H = out
  simp [pW, Try.f5, e0, e5, e6, c1, w0, w1, w2, w3, build2, callA, r2, r3, build22, e1] at hr
  subst hr
  refine ⟨_, _, _, rfl, by simp, by simp, by simp; rfl, by simp, ?_⟩
  rw [show 2 * (i + 1) = 2 * i + 2 by omega]
  exact hI'
end Go.Proofs.Ytpopkajkekceiaa

namespace Go.Proofs.Ytpopkajkekceiaa
open Go Go.Abs
set_option maxRecDepth 100000
set_option linter.unusedSimpArgs false
set_option linter.unusedVariables false

theorem b_exit {env : Env} {H : Heap} {lets i lf : Nat} (hi : lets ≤ i) (e0 : env.val 0 = .int .i64 lets) (e6 : env.val 6 = .int .i64 i) :
    ∃ env', evCode Try.prog callB lf 114 none (cAt Try.f5 pW) env [] H = some (.exit 0, env', [], H) ∧ env'.val 0 = env.val 0 ∧ env'.val 1 = env.val 1 ∧ env'.val 5 = env.val 5 := by
  have c1 : ¬ (i : Int) < (lets : Int) := by omega
  generalize hr : evCode Try.prog callB lf 114 none (cAt Try.f5 pW) env [] H = out
  simp [pW, Try.f5, e0, e6, c1] at hr
  subst hr
  exact ⟨_, rfl, by simp [e0]⟩

theorem b_loop {H0 : Heap} {lets lf : Nat} (hl : lets ≤ 110) : ∀ (d i m : Nat) (env : Env) (H : Heap) (v : Value), lets = i + d → d < m → LInv H0 (2 * i) (midN 0 i) H v → env.val 0 = .int .i64 lets → env.val 5 = v → env.val 6 = .int .i64 i →
    ∃ env' H' v', evLoop Try.prog callB lf 114 none (cAt Try.f5 pW) m env [] H = some (.exit 0, env', [], H') ∧ env'.val 0 = env.val 0 ∧ env'.val 1 = env.val 1 ∧ env'.val 5 = v' ∧ LInv H0 (2 * lets) (midN 0 lets) H' v'
  | d, i, 0, env, H, v, _, hm, _, _, _, _ => by omega
  | 0, i, m + 1, env, H, v, hd, hm, hI, e0, e5, e6 => by
    obtain ⟨env', he, k0, k1, k5⟩ := b_exit (lf := lf) (H := H) (by omega) e0 e6
    simp only [evLoop_succ, he]
    have : i = lets := by omega
    subst this
    exact ⟨_, _, _, rfl, k0, k1, k5.trans e5, hI⟩
  | d + 1, i, m + 1, env, H, v, hd, hm, hI, e0, e5, e6 => by
    obtain ⟨env', H', v', he, k0, k1, k5, k6, hI'⟩ := b_round (lf := lf) hI (by omega) hl e0 e5 e6
    simp only [evLoop_succ, he]
    have hmid : midN 0 i ++ [⟨4, 0, [2 * (i : Int) + 1, 2 * (i : Int) + 2]⟩, ⟨2, 0, []⟩] = midN 0 (i + 1) := by
      rw [midN_snoc]; simp
    rw [hmid] at hI'
    obtain ⟨e2, H2, v2, r2, l0, l1, l5, hI2⟩ := b_loop hl d (i + 1) m env' H' v' (by omega) (by omega) hI' (k0.trans e0) k5 k6
    exact ⟨e2, H2, v2, r2, l0.trans k0, l1.trans k1, l5, hI2⟩

theorem b_R8 {env : Env} {H0 H : Heap} {lets lf : Nat} {v : Value} (hl : lets ≤ 110) (hI : LInv H0 (2 * lets) (midN 0 lets) H v) (e5 : env.val 5 = v) :
    ∃ env' H' v', evCode Try.prog callB lf 114 none (cAt Try.f5 [1, 1, 1, 1, 0]) env [] H = some (.normal, env', [], H') ∧ env'.val 0 = env.val 0 ∧ env'.val 1 = env.val 1 ∧ env'.val 5 = v' ∧ LInv H0 (2 * lets + 1) (boundsN 0 lets) H' v' := by
  obtain ⟨H3, r3, k3⟩ := node_run (op := 2) (n := 0) (s := .slice none 0 0) rfl hI.wf
  have k14 := k3.push (.cells true 3 [.int .i64 2, .int .i64 0, .slice none 0 0])
  have hn2 : ∀ H : Heap, rdNode H [.int .i64 2, .int .i64 0, .slice none 0 0] = some ⟨2, 0, []⟩ := fun _ => by rfl
  obtain ⟨H', e1, hI'⟩ := hI.more (m := 1) k14 (bx := H3.next) (ys := [[.int .i64 2, .int .i64 0, .slice none 0 0]]) rfl (by
      intro y hy
      simp only [List.mem_cons, List.not_mem_nil, or_false] at hy
      subst hy
      exact ⟨rfl, 2, 0, _, ⟨2, 0, []⟩, rfl, hn2 _, .inl rfl⟩) (by rfl) (get_push_self _ _) (more := [⟨2, 0, []⟩]) (by rw [List.mapM_cons, hn2]; rfl) (by omega) (by omega)
  simp only [Heap.next_push] at e1 hI'
  rw [← boundsN_mid] at hI'
  generalize hr : evCode Try.prog callB lf 114 none (cAt Try.f5 [1, 1, 1, 1, 0]) env [] H = out
  simp [Try.f5, e5, callA, r3, build21, e1] at hr
  subst hr
  exact ⟨_, _, _, rfl, by simp, by simp, by simp, hI'⟩

theorem LInv.fit {H0 H : Heap} {n : Nat} {nodes : List NodeD} {v : Value} {p : Int} (hI : LInv H0 n nodes H v) (hf : ∀ x ∈ nodes, x.l.length < 1099511627776) : rdFit H (.agg #[.int .i64 p, v]) = some ⟨p, nodes⟩ := by
  obtain ⟨xs, hxl, hxs, hrd, htab⟩ := hI.tab
  have hS : rdS H 3 v = some xs := by
    rcases htab with ⟨h1, h2⟩ | ⟨b, h1, h2, h3⟩
    · rw [h2, List.eq_nil_of_length_eq_zero (hxl.trans h1)]; rfl
    · have hfl : xs.flatten.length = n * 3 := by rw [flatten_length xs (es := 3) fun x hx => (hxs x hx).1, hxl]
      rw [h1]
      have hcap : capA n BIG = n := by unfold capA; exact if_neg (Nat.lt_irrefl _)
      simp only [rdS, h2]
      rw [if_pos (show n ≤ capA n BIG ∧ 0 + n * 3 ≤ xs.flatten.length from ⟨by rw [hcap]; exact Nat.le_refl _, by omega⟩), List.drop_zero, ← hxl, Go.Abs.chunks_flatten xs fun x hx => (hxs x hx).1]
  refine rdFit_of ?_ hf
  simp only [rdFun, smallN, hS]
  rw [hrd]; rfl
theorem boundsN_short : ∀ (d i : Nat), ∀ x ∈ boundsN i d, x.l.length < 1099511627776
  | 0, i, x, hx => by simp only [boundsN, List.mem_cons, List.not_mem_nil, or_false] at hx; subst hx; simp
  | d + 1, i, x, hx => by
    simp only [boundsN, List.mem_cons] at hx
    rcases hx with rfl | rfl | hx
    · simp
    · simp
    · exact boundsN_short d (i + 1) x hx

theorem b_R9 {env : Env} {H0 H : Heap} {n lf : Nat} {nodes : List NodeD} {v : Value} {p : Int} (hI : LInv H0 n nodes H v) (hn : 0 < n) (hf : ∀ x ∈ nodes, x.l.length < 1099511627776) (e1 : env.val 1 = .int .i64 p) (e5 : env.val 5 = v) :
    ∃ env' H' b, evCode Try.prog callB lf 114 none (cAt Try.f5 [1, 1, 1, 1, 1, 0]) env [] H = some (.normal, env', [], H') ∧ env'.val 0 = env.val 0 ∧ env'.val 1 = env.val 1 ∧ env'.val 7 = .pointer (some ⟨b, 0, none⟩) ∧
      H'.get b = some (.cells true 2 [.int .i64 p, v]) ∧ rdFit H' (.agg #[.int .i64 p, v]) = some ⟨p, nodes⟩ ∧ Ext H0 H' := by
  obtain ⟨xs, hxl, hxs, hrd, htab⟩ := hI.tab
  obtain ⟨b, hv, hb, hb0⟩ : ∃ b, v = .slice (some ⟨b, 0, none⟩) n BIG ∧ H.get b = some (.cells true 3 xs.flatten) ∧ H0.next ≤ b := by
    rcases htab with ⟨h1, h2⟩ | h
    · omega
    · exact h
  obtain ⟨H2, r2, k2⟩ := of_run (p := p) hv hI.wf
  have hone : oneC v = true := by rw [hv]; rfl
  have st : storeA Try.prog 24 (H2.push (.cells true 2 [.int .i64 0, .slice none 0 0])) H2.next 0 (.agg #[.int .i64 p, v]) = some ((H2.push (.cells true 2 [.int .i64 0, .slice none 0 0])).set H2.next (.cells true 2 [.int .i64 p, v])) := by
    simp [storeA, get_push_self, hone, putL]
  have k3 := (k2.push (.cells true 2 [.int .i64 0, .slice none 0 0])).set (c := H2.next) k2.le (by simp) (.cells true 2 [.int .i64 p, v])
  have hx : Ext H ((H2.push (.cells true 2 [.int .i64 0, .slice none 0 0])).set H2.next (.cells true 2 [.int .i64 p, v])) := fun c ob hc => by
    rw [k3.get c (hI.wf.lt hc) (by simp)]; exact hc
  generalize hr : evCode Try.prog callB lf 114 none (cAt Try.f5 [1, 1, 1, 1, 1, 0]) env [] H = out
  simp [Try.f5, e1, e5, callA, r2, st] at hr
  subst hr
  exact ⟨_, _, H2.next, rfl, by simp, by simp [e1], by simp, get_set_self _ _ _, rdFit_ext hx (hI.fit hf), hI.ext.trans hx⟩

theorem b_rest {env : Env} {H : Heap} {lf lets b : Nat} {p : Int} {v : Value} (hl : lets ≤ 110) (e0 : env.val 0 = .int .i64 lets) (e1 : env.val 1 = .int .i64 p) (e7 : env.val 7 = .pointer (some ⟨b, 0, none⟩)) (hb : H.get b = some (.cells true 2 [.int .i64 p, v]))
    (hf : rdFit H (.agg #[.int .i64 p, v]) = some ⟨p, boundsN 0 lets⟩) :
    ∃ env', evCode Try.prog callB lf 114 none (cAt Try.f5 [1, 1, 1, 1, 1, 1]) env [] H = some (.ret, env', [], H) ∧ env'.val 4 = .bool true := by
  have ld : loadA Try.prog 24 H b 0 = some (.agg #[.int .i64 p, v]) := by simp [loadA, hb]
  have hw := callB_where hf
  rw [bounds_where] at hw
  generalize hr : evCode Try.prog callB lf 114 none (cAt Try.f5 [1, 1, 1, 1, 1, 1]) env [] H = out
  by_cases c1 : p < 0
  · rw [if_pos (by omega)] at hw
    simp [Try.f5, e0, e1, e7, ld, callA, hw, callB_num, callB_works, c1] at hr
    subst hr
    exact ⟨_, rfl, by simp⟩
  · by_cases c2 : 9 < p
    · rw [if_pos (by omega)] at hw
      simp [Try.f5, e0, e1, e7, ld, callA, hw, callB_num, callB_works, c1, c2] at hr
      subst hr
      exact ⟨_, rfl, by simp⟩
    · by_cases c3 : 99 < lets
      · have c3' : (99 : Int) < (lets : Int) := by omega
        rw [if_pos (by omega)] at hw
        simp [Try.f5, e0, e1, e7, ld, callA, hw, callB_num, callB_works, c1, c2, c3, c3'] at hr
        subst hr
        exact ⟨_, rfl, by simp⟩
      · have c3' : ¬ (99 : Int) < (lets : Int) := by omega
        rw [if_neg (by omega)] at hw
        have wr : IntKind.i64.wrap ((lets : Int) + p) = (lets : Int) + p := wrapI (by omega) (by omega)
        by_cases c4 : 64 < (lets : Int) + p
        · rw [if_pos (by omega)] at hw
          have w2 : IntKind.i64.wrap (65 - p) = 65 - p := wrapI (by omega) (by omega)
          have w3 : IntKind.i64.wrap (2 * (65 - p)) = 2 * (65 - p) := wrapI (by omega) (by omega)
          simp [Try.f5, e0, e1, e7, ld, callA, hw, callB_num, callB_works, c1, c2, c3, c3', wr, c4, w2, w3] at hr
          subst hr
          exact ⟨_, rfl, by simp⟩
        · rw [if_neg (by omega)] at hw
          obtain ⟨d1, d2⟩ := bounds_placed (lets := lets) (params := p) (by omega) (by omega)
          have hd := callB_depth (n := 2 * (lets : Int)) hf
          rw [d1, d2] at hd
          have w2 : IntKind.i64.wrap (2 * (lets : Int)) = 2 * (lets : Int) := wrapI (by omega) (by omega)
          have hc : (p + (lets : Int) == (lets : Int) + p) = true := by simp; omega
          simp [Try.f5, e0, e1, e7, ld, callA, hw, hd, callB_num, callB_works, c1, c2, c3, c3', wr, c4, w2, -beq_iff_eq, hc] at hr
          subst hr
          exact ⟨_, rfl, by simp⟩

theorem bounds_run {H : Heap} {lets params : Int} (hw : H.Wf) : ∃ H', evFn Try.prog callB 120 5 [.int .i64 lets, .int .i64 params] H = some (.ret (.bool true), H') := by
  have hend : ∀ {env : Env} {H' : Heap}, env.val 4 = .bool true → fnEnd Try.prog callB 120 Try.f5 (some (.ret, env, [], H')) = some (.ret (.bool true), H') := by
    intro env H' h
    simp [fnEnd, Try.f5, h]
  have hst : ∀ out, evCode Try.prog callB 120 114 none (cAt Try.f5 []) (envOf 0 [.int .i64 lets, .int .i64 params] .nil) [] H = out → evFn Try.prog callB 120 5 [.int .i64 lets, .int .i64 params] H = fnEnd Try.prog callB 120 Try.f5 out := by
    intro out h
    rw [evFn_at Try.func5 body5 (by simp), Try.ntmps5, h]
  by_cases hin : lets < 0 ∨ 110 < lets
  · have r : ∃ e, evCode Try.prog callB 120 114 none (cAt Try.f5 []) (envOf 0 [.int .i64 lets, .int .i64 params] .nil) [] H = some (.ret, e, [], H) ∧ e.val 4 = .bool true := by
      have r0 : ∃ e, evCode Try.prog callB 120 114 none (cAt Try.f5 [0]) (envOf 0 [.int .i64 lets, .int .i64 params] .nil) [] H = some (.normal, e, [], H) ∧ e.val 0 = .int .i64 lets := by
        generalize hr : evCode Try.prog callB 120 114 none (cAt Try.f5 [0]) (envOf 0 [.int .i64 lets, .int .i64 params] .nil) [] H = out
        simp [Try.f5] at hr
        subst hr
        exact ⟨_, rfl, by simp⟩
      obtain ⟨e, r0, v0⟩ := r0
      have r1 : ∃ e', evCode Try.prog callB 120 114 none (cAt Try.f5 [1, 0]) e [] H = some (.ret, e', [], H) ∧ e'.val 4 = .bool true := by
        generalize hr : evCode Try.prog callB 120 114 none (cAt Try.f5 [1, 0]) e [] H = out
        by_cases c1 : lets < 0
        · simp [Try.f5, v0, c1, callA, callB_works] at hr
          subst hr
          exact ⟨_, rfl, by simp⟩
        · have c2 : 110 < lets := by omega
          simp [Try.f5, v0, c1, c2, callA, callB_works] at hr
          subst hr
          exact ⟨_, rfl, by simp⟩
      obtain ⟨e', r1, v4⟩ := r1
      exact ⟨e', by rw [ev_then (c := cAt Try.f5 []) (b := cAt Try.f5 [1]) rfl r0, ev_stop (c := cAt Try.f5 [1]) (a := cAt Try.f5 [1, 0]) (b := cAt Try.f5 [1, 1]) rfl r1 (by simp)], v4⟩
    obtain ⟨e, r, v4⟩ := r
    exact ⟨H, (hst _ r).trans (hend v4)⟩
  · obtain ⟨n, hn⟩ : ∃ n : Nat, lets = n := ⟨lets.toNat, by omega⟩
    subst hn
    have r0 : ∃ e, evCode Try.prog callB 120 114 none (cAt Try.f5 [0]) (envOf 0 [.int .i64 n, .int .i64 params] .nil) [] H = some (.normal, e, [], H) ∧ e.val 0 = .int .i64 n ∧ e.val 1 = .int .i64 params := by
      generalize hr : evCode Try.prog callB 120 114 none (cAt Try.f5 [0]) (envOf 0 [.int .i64 n, .int .i64 params] .nil) [] H = out
      simp [Try.f5] at hr
      subst hr
      exact ⟨_, rfl, by simp⟩
    obtain ⟨e, r0, v0, v1⟩ := r0
    have r1 : ∃ e', evCode Try.prog callB 120 114 none (cAt Try.f5 [1, 0]) e [] H = some (.normal, e', [], H) ∧ e'.val 0 = e.val 0 ∧ e'.val 1 = e.val 1 := by
      have c1 : ¬ (n : Int) < 0 := by omega
      have c2 : ¬ (110 : Int) < (n : Int) := by omega
      generalize hr : evCode Try.prog callB 120 114 none (cAt Try.f5 [1, 0]) e [] H = out
      simp [Try.f5, v0, c1, c2] at hr
      subst hr
      exact ⟨_, rfl, by simp [v0]⟩
    obtain ⟨e', r1, w0, w1⟩ := r1
    have r2 : ∃ e2, evCode Try.prog callB 120 114 none (cAt Try.f5 [1, 1, 0]) e' [] H = some (.normal, e2, [], H) ∧ e2.val 0 = e'.val 0 ∧ e2.val 1 = e'.val 1 ∧ e2.val 5 = .slice none 0 0 := by
      generalize hr : evCode Try.prog callB 120 114 none (cAt Try.f5 [1, 1, 0]) e' [] H = out
      simp [Try.f5] at hr
      subst hr
      exact ⟨_, rfl, by simp⟩
    obtain ⟨e2, r2, x0, x1, x5⟩ := r2
    have r3 : ∃ e3, evCode Try.prog callB 120 114 none (cAt Try.f5 [1, 1, 1, 0, 0]) e2 [] H = some (.normal, e3, [], H) ∧ e3.val 0 = e2.val 0 ∧ e3.val 1 = e2.val 1 ∧ e3.val 5 = e2.val 5 ∧ e3.val 6 = .int .i64 ((0 : Nat) : Int) := by
      generalize hr : evCode Try.prog callB 120 114 none (cAt Try.f5 [1, 1, 1, 0, 0]) e2 [] H = out
      simp [Try.f5] at hr
      subst hr
      exact ⟨_, rfl, by simp⟩
    obtain ⟨e3, r3, y0, y1, y5, y6⟩ := r3
    have hI0 : LInv H (2 * 0) (midN 0 0) H (.slice none 0 0) := ⟨hw, hw, Ext.refl H, Nat.le_refl _, [], rfl, (fun x hx => by cases hx), rfl, .inl ⟨rfl, rfl⟩⟩
    obtain ⟨e4, H4, v4, r4, z0, z1, z5, hI4⟩ := b_loop (lf := 120) (lets := n) (by omega) n 0 120 e3 H _ (by omega) (by omega) hI0 (y0.trans (x0.trans (w0.trans v0))) (y5.trans x5) y6
    have hblk : evCode Try.prog callB 120 114 none (cAt Try.f5 [1, 1, 1, 0, 1]) e3 [] H = some (.normal, e4, [], H4) := by
      rw [show cAt Try.f5 [1, 1, 1, 0, 1] = .block 0 (.loop (cAt Try.f5 pW)) from rfl, evCode_block, evCode_loop, r4]
      simp
    obtain ⟨e5, H5, v5, r5, a0, a1, a5, hI5⟩ := b_R8 (lf := 120) (env := e4) (by omega) hI4 z5
    obtain ⟨e6, H6, b6, r6, b0, b1, b7, hb6, hf6, _⟩ := b_R9 (lf := 120) (env := e5) (p := params) hI5 (by omega) (boundsN_short n 0) (a1.trans (z1.trans (y1.trans (x1.trans (w1.trans v1))))) a5
    obtain ⟨e7, r7, c4⟩ := b_rest (lf := 120) (env := e6) (lets := n) (by omega) (b0.trans (a0.trans (z0.trans (y0.trans (x0.trans (w0.trans v0)))))) (b1.trans (a1.trans (z1.trans (y1.trans (x1.trans (w1.trans v1)))))) b7 hb6 hf6
    have hA : evCode Try.prog callB 120 114 none (cAt Try.f5 [1, 1, 1, 0]) e2 [] H = some (.normal, e4, [], H4) := by
      rw [ev_then (c := cAt Try.f5 [1, 1, 1, 0]) (b := cAt Try.f5 [1, 1, 1, 0, 1]) rfl r3, hblk]
    have hall : evCode Try.prog callB 120 114 none (cAt Try.f5 []) (envOf 0 [.int .i64 n, .int .i64 params] .nil) [] H = some (.ret, e7, [], H6) := by
      rw [ev_then (c := cAt Try.f5 []) (b := cAt Try.f5 [1]) rfl r0, ev_then (c := cAt Try.f5 [1]) (b := cAt Try.f5 [1, 1]) rfl r1, ev_then (c := cAt Try.f5 [1, 1]) (b := cAt Try.f5 [1, 1, 1]) rfl r2,
        ev_then (c := cAt Try.f5 [1, 1, 1]) (b := cAt Try.f5 [1, 1, 1, 1]) rfl hA, ev_then (c := cAt Try.f5 [1, 1, 1, 1]) (b := cAt Try.f5 [1, 1, 1, 1, 1]) rfl r5, ev_then (c := cAt Try.f5 [1, 1, 1, 1, 1]) (b := cAt Try.f5 [1, 1, 1, 1, 1, 1]) rfl r6, r7]
    exact ⟨H6, (hst _ hall).trans (hend c4)⟩
end Go.Proofs.Ytpopkajkekceiaa

namespace Go.Proofs.Ytpopkajkekceiaa
open Go Go.Abs
set_option maxRecDepth 100000
set_option linter.unusedSimpArgs false
set_option linter.unusedVariables false

/-! ### A function that may be is a tree -/
def delta (op : Int) (k : Nat) : Int := if op = 4 ∧ k = 1 then 1 else 0
def doneAt (i m i' k : Nat) : Prop := i' < i ∨ (i' = i ∧ k < m)
structure TI (f : FunD) (i m : Nat) (ps : List Pl) : Prop where
  len : ps.length = f.nodes.length
  zero : ps[0]? = some ⟨0, f.params, true⟩
  kid : ∀ (i' : Nat) x, f.nodes[i']? = some x → ∀ (k : Nat) c, x.l[k]? = some c → doneAt i m i' k → ∃ (j : Nat) (p : Pl), c = j ∧ i' < j ∧ j < f.nodes.length ∧ ps[i']? = some p ∧ ps[j]? = some ⟨i', p.vars + delta x.op k, true⟩
  uniq : ∀ (i1 i2 : Nat) x1 x2, f.nodes[i1]? = some x1 → f.nodes[i2]? = some x2 → ∀ (k1 k2 : Nat) c, x1.l[k1]? = some c → x2.l[k2]? = some c → doneAt i m i1 k1 → doneAt i m i2 k2 → i1 = i2 ∧ k1 = k2
  from0 : ∀ (j : Nat) p, ps[j]? = some p → p.has = true → j = 0 ∨ ∃ (i' : Nat) (x : NodeD) (k : Nat), f.nodes[i']? = some x ∧ x.l[k]? = some (j : Int) ∧ doneAt i m i' k

theorem ti_kids {f : FunD} {i : Nat} {x : NodeD} {p : Pl} (hx : f.nodes[i]? = some x) : ∀ (cs : List Int) (k : Nat) (ps ps' : List Pl), x.l.drop k = cs → TI f i k ps → ps[i]? = some p → lookKids f.nodes.length i x.op p.vars k cs ps = some ps' → TI f i x.l.length ps' ∧ ps'[i]? = some p
  | [], k, ps, ps', hd, hI, hp, h => by
    simp only [lookKids, Option.some.injEq] at h
    subst h
    have hk : x.l.length ≤ k := by have := congrArg List.length hd; simp at this; omega
    refine ⟨⟨hI.len, hI.zero, ?_, ?_, ?_⟩, hp⟩
    · intro i' y hy k' c hc hdn
      exact hI.kid i' y hy k' c hc (by rcases hdn with h | ⟨h, h2⟩; exact .inl h; exact .inr ⟨h, by omega⟩)
    · intro i1 i2 x1 x2 h1 h2 k1 k2 c g1 g2 d1 d2
      exact hI.uniq i1 i2 x1 x2 h1 h2 k1 k2 c g1 g2 (by rcases d1 with h | ⟨h, h2⟩; exact .inl h; exact .inr ⟨h, by omega⟩) (by rcases d2 with h | ⟨h, h2⟩; exact .inl h; exact .inr ⟨h, by omega⟩)
    · intro j q hj hh
      rcases hI.from0 j q hj hh with h | ⟨i', y, k', h1, h2, h3⟩
      · exact .inl h
      · refine .inr ⟨i', y, k', h1, h2, ?_⟩
        rcases h3 with h3 | ⟨h3, h4⟩
        · exact .inl h3
        · subst h3
          rw [hx] at h1; cases h1
          exact .inr ⟨rfl, (List.getElem?_eq_some_iff.1 h2).1⟩
  | c :: cs, k, ps, ps', hd, hI, hp, h => by
    have hk : x.l[k]? = some c := by
      have := List.getElem?_drop (xs := x.l) (i := k) (j := 0)
      rw [hd] at this
      simpa using this.symm
    simp only [lookKids] at h
    split at h
    · rename_i hc
      split at h
      · rename_i q hq
        split at h
        · cases h
        · rename_i hh
          have hlt := (List.getElem?_eq_some_iff.1 hq).1
          have hci : c.toNat ≠ i := by omega
          have hv : (if x.op = 4 ∧ k = 1 then p.vars + 1 else p.vars) = p.vars + delta x.op k := by unfold delta; split <;> omega
          rw [hv] at h
          have hne : ∀ (j : Nat) (r : Pl), ps[j]? = some r → r.has = true → c.toNat ≠ j := by
            intro j r hr hrh e
            subst e
            rw [hq] at hr; cases hr
            exact hh hrh
          have hI' : TI f i (k + 1) (ps.set c.toNat ⟨i, p.vars + delta x.op k, true⟩) := by
            refine ⟨by simpa using hI.len, by rw [List.getElem?_set_ne (hne 0 _ hI.zero rfl)]; exact hI.zero, ?_, ?_, ?_⟩
            · intro i' y hy k' c' hc' hdn
              by_cases hnew : i' = i ∧ k' = k
              · obtain ⟨rfl, rfl⟩ := hnew
                rw [hx] at hy; cases hy
                rw [hk] at hc'; cases hc'
                exact ⟨c.toNat, p, by omega, by omega, by have := hI.len; omega, by rw [List.getElem?_set_ne hci]; exact hp, by rw [List.getElem?_set_self hlt]⟩
              · obtain ⟨j, r, e1, e2, e3, e4, e5⟩ := hI.kid i' y hy k' c' hc' (by rcases hdn with h | ⟨h, h2⟩; exact .inl h; exact .inr ⟨h, by omega⟩)
                have hi' : i' ≤ i := by rcases hdn with h | ⟨h, _⟩ <;> omega
                exact ⟨j, r, e1, e2, e3, by rw [List.getElem?_set_ne (by omega)]; exact e4, by rw [List.getElem?_set_ne (hne j _ e5 rfl)]; exact e5⟩
            · have hold : ∀ (i' : Nat) y, f.nodes[i']? = some y → ∀ (k' : Nat), y.l[k']? = some c → doneAt i k i' k' → False := by
                intro i' y hy k' hc' hdn
                obtain ⟨j, r, e1, e2, e3, e4, e5⟩ := hI.kid i' y hy k' c hc' hdn
                exact hne j _ e5 rfl (by omega)
              intro i1 i2 x1 x2 h1 h2 k1 k2 c' g1 g2 d1 d2
              by_cases n1 : i1 = i ∧ k1 = k
              · obtain ⟨rfl, rfl⟩ := n1
                rw [hx] at h1; cases h1
                rw [hk] at g1; cases g1
                by_cases n2 : i2 = i1 ∧ k2 = k1
                · exact ⟨n2.1.symm, n2.2.symm⟩
                · exact (hold i2 x2 h2 k2 g2 (by rcases d2 with h | ⟨h, h2⟩; exact .inl h; exact .inr ⟨h, by omega⟩)).elim
              · by_cases n2 : i2 = i ∧ k2 = k
                · obtain ⟨rfl, rfl⟩ := n2
                  rw [hx] at h2; cases h2
                  rw [hk] at g2; cases g2
                  exact (hold i1 x1 h1 k1 g1 (by rcases d1 with h | ⟨h, h2⟩; exact .inl h; exact .inr ⟨h, by omega⟩)).elim
                · exact hI.uniq i1 i2 x1 x2 h1 h2 k1 k2 c' g1 g2 (by rcases d1 with h | ⟨h, h2⟩; exact .inl h; exact .inr ⟨h, by omega⟩) (by rcases d2 with h | ⟨h, h2⟩; exact .inl h; exact .inr ⟨h, by omega⟩)
            · intro j r hj hrh
              by_cases hjc : c.toNat = j
              · subst hjc
                exact .inr ⟨i, x, k, hx, by rw [hk]; congr 1; omega, .inr ⟨rfl, by omega⟩⟩
              · rw [List.getElem?_set_ne hjc] at hj
                rcases hI.from0 j r hj hrh with h | ⟨i', y, k', h1, h2, h3⟩
                · exact .inl h
                · exact .inr ⟨i', y, k', h1, h2, by rcases h3 with h | ⟨h, h2⟩; exact .inl h; exact .inr ⟨h, by omega⟩⟩
          have hd' : x.l.drop (k + 1) = cs := by rw [← List.drop_drop, hd]; rfl
          exact ti_kids hx cs (k + 1) _ ps' hd' hI' (by rw [List.getElem?_set_ne hci]; exact hp) h
      · cases h
    · cases h

theorem ti_next {f : FunD} {i : Nat} {x : NodeD} {ps : List Pl} (hx : f.nodes[i]? = some x) (h : TI f i x.l.length ps) : TI f (i + 1) 0 ps := by
  have up : ∀ {i' k : Nat} {y : NodeD}, f.nodes[i']? = some y → k < y.l.length → doneAt (i + 1) 0 i' k → doneAt i x.l.length i' k := by
    intro i' k y hy hk hd
    rcases hd with hd | ⟨_, hd⟩
    · by_cases hi : i' = i
      · subst hi; rw [hx] at hy; cases hy; exact .inr ⟨rfl, hk⟩
      · exact .inl (by omega)
    · omega
  refine ⟨h.len, h.zero, ?_, ?_, ?_⟩
  · intro i' y hy k c hc hd
    exact h.kid i' y hy k c hc (up hy (List.getElem?_eq_some_iff.1 hc).1 hd)
  · intro i1 i2 x1 x2 h1 h2 k1 k2 c g1 g2 d1 d2
    exact h.uniq i1 i2 x1 x2 h1 h2 k1 k2 c g1 g2 (up h1 (List.getElem?_eq_some_iff.1 g1).1 d1) (up h2 (List.getElem?_eq_some_iff.1 g2).1 d2)
  · intro j p hj hh
    rcases h.from0 j p hj hh with h | ⟨i', y, k, h1, h2, h3⟩
    · exact .inl h
    · exact .inr ⟨i', y, k, h1, h2, by rcases h3 with h | ⟨h, _⟩ <;> exact .inl (by omega)⟩

theorem ti_from {f : FunD} : ∀ (xs : List NodeD) (i : Nat) (ps ps' : List Pl), f.nodes.drop i = xs → TI f i 0 ps → lookFrom f.nodes.length i xs ps = .ok ps' → TI f f.nodes.length 0 ps'
  | [], i, ps, ps', hd, hI, h => by
    simp only [lookFrom, Except.ok.injEq] at h
    subst h
    have hn : f.nodes.length ≤ i := by have := congrArg List.length hd; simp at this; omega
    have up : ∀ {i' k : Nat} {y : NodeD}, f.nodes[i']? = some y → doneAt f.nodes.length 0 i' k → doneAt i 0 i' k := by
      intro i' k y hy hd
      have := (List.getElem?_eq_some_iff.1 hy).1
      exact .inl (by omega)
    refine ⟨hI.len, hI.zero, ?_, ?_, ?_⟩
    · intro i' y hy k c hc hd; exact hI.kid i' y hy k c hc (up hy hd)
    · intro i1 i2 x1 x2 h1 h2 k1 k2 c g1 g2 d1 d2; exact hI.uniq i1 i2 x1 x2 h1 h2 k1 k2 c g1 g2 (up h1 d1) (up h2 d2)
    · intro j p hj hh
      rcases hI.from0 j p hj hh with h | ⟨i', y, k, h1, h2, h3⟩
      · exact .inl h
      · exact .inr ⟨i', y, k, h1, h2, .inl (List.getElem?_eq_some_iff.1 h1).1⟩
  | x :: xs, i, ps, ps', hd, hI, h => by
    have hx : f.nodes[i]? = some x := by
      have := List.getElem?_drop (xs := f.nodes) (i := i) (j := 0)
      rw [hd] at this
      simpa using this.symm
    rw [lookFrom_cons] at h
    split at h
    · rename_i ps2 hs
      have hs0 := hs
      unfold nodeStep at hs
      split at hs
      · rename_i p hp
        split at hs
        · split at hs
          · obtain ⟨hI2, _⟩ := ti_kids hx x.l 0 ps ps2 rfl hI hp hs
            exact ti_from xs (i + 1) ps2 ps' (by rw [← List.drop_drop, hd]; rfl) (ti_next hx hI2) h
          · cases hs
        · cases hs
      · cases hs
    · cases h

/-- What a function that may be is: the places at the end. -/
theorem ti_looked {f : FunD} {ps : List Pl} (h : lookedL f = .ok ps) : TI f f.nodes.length 0 ps ∧ 0 < f.nodes.length ∧ f.nodes.length ≤ 200 ∧ 0 ≤ f.params ∧ f.params ≤ 9 := by
  unfold lookedL at h
  split at h
  · rename_i hw
    have hb : 0 ≤ f.params ∧ f.params ≤ 9 ∧ 1 ≤ (f.nodes.length : Int) ∧ (f.nodes.length : Int) ≤ 200 := by
      simp only [withinL] at hw
      split at hw
      · cases hw
      · split at hw
        · cases hw
        · omega
    refine ⟨ti_from f.nodes 0 _ ps rfl ?_ h, by omega, by omega, hb.1, hb.2.1⟩
    refine ⟨by simp, by rw [List.getElem?_set_self (by simp; omega)], ?_, ?_, ?_⟩
    · intro i' y hy k c hc hd; rcases hd with hd | ⟨_, hd⟩ <;> omega
    · intro i1 i2 x1 x2 h1 h2 k1 k2 c g1 g2 d1 d2; rcases d1 with hd | ⟨_, hd⟩ <;> omega
    · intro j p hj hh
      by_cases hj0 : j = 0
      · exact .inl hj0
      · rw [List.getElem?_set_ne (by omega), List.getElem?_replicate] at hj
        split at hj
        · cases hj; cases hh
        · cases hj
  · cases h
end Go.Proofs.Ytpopkajkekceiaa

namespace Go.Proofs.Ytpopkajkekceiaa
open Go Go.Abs
set_option maxRecDepth 100000
set_option linter.unusedSimpArgs false
set_option linter.unusedVariables false

/-! ### The order in which Order goes (before it is turned round) -/
def kidsOf (f : FunD) (i : Nat) : List Nat := match f.nodes[i]? with
  | some x => x.l.map Int.toNat
  | none => []

theorem nodup_le : ∀ (n : Nat) (l : List Nat), l.Nodup → (∀ x ∈ l, x < n) → l.length ≤ n
  | 0, l, _, h => by
    cases l with
    | nil => simp
    | cons x l => exact absurd (h x (by simp)) (by omega)
  | n + 1, l, hn, h => by
    by_cases hm : n ∈ l
    · have h1 := nodup_le n (l.erase n) (hn.erase n) (fun x hx => by
        have := (hn.mem_erase_iff).1 hx
        have := h x this.2
        omega)
      rw [List.length_erase_of_mem hm] at h1
      omega
    · have := nodup_le n l hn (fun x hx => by
        have := h x hx
        have hne : x ≠ n := fun e => hm (e ▸ hx)
        omega)
      omega

theorem nodup_inj {l : List Nat} (h : l.Nodup) {a b c : Nat} (ha : l[a]? = some c) (hb : l[b]? = some c) : a = b := by
  obtain ⟨la, ea⟩ := List.getElem?_eq_some_iff.1 ha
  obtain ⟨lb, eb⟩ := List.getElem?_eq_some_iff.1 hb
  have hp := List.pairwise_iff_getElem.1 h
  rcases Nat.lt_trichotomy a b with hl | he | hl
  · exact absurd (ea.trans eb.symm) (hp a b la lb hl)
  · exact he
  · exact absurd (eb.trans ea.symm) (hp b a lb la hl)
theorem nodup_of {l : List Nat} (h : ∀ (a b c : Nat), a < b → l[a]? = some c → l[b]? = some c → False) : l.Nodup := by
  refine List.pairwise_iff_getElem.2 fun a b la lb hab e => ?_
  exact h a b l[a] hab (List.getElem?_eq_getElem la) (by rw [List.getElem?_eq_getElem lb, e])

/-- The kids of nodes of a tree. -/
structure Tree (kids : Nat → List Nat) (n : Nat) : Prop where
  up : ∀ p c, c ∈ kids p → p < c ∧ c < n
  nodup : ∀ p, (kids p).Nodup
  one : ∀ p q c, c ∈ kids p → c ∈ kids q → p = q
  all : ∀ c, 0 < c → c < n → ∃ p, c ∈ kids p
  pos : 0 < n

theorem tree_of {f : FunD} {ps : List Pl} (h : lookedL f = .ok ps) : Tree (kidsOf f) f.nodes.length := by
  obtain ⟨hI, h0, _, _, _⟩ := ti_looked h
  have hget : ∀ {p c : Nat}, c ∈ kidsOf f p → ∃ (x : NodeD) (k : Nat), f.nodes[p]? = some x ∧ x.l[k]? = some (c : Int) ∧ p < c ∧ c < f.nodes.length := by
    intro p c hc
    unfold kidsOf at hc
    split at hc
    · rename_i x hx
      obtain ⟨d, hd, rfl⟩ := List.mem_map.1 hc
      obtain ⟨k, hk, rfl⟩ := List.mem_iff_getElem.1 hd
      obtain ⟨j, q, e1, e2, e3, _, _⟩ := hI.kid p x hx k _ (List.getElem?_eq_getElem hk) (.inl (List.getElem?_eq_some_iff.1 hx).1)
      refine ⟨x, k, hx, ?_, by omega, by omega⟩
      rw [List.getElem?_eq_getElem hk]
      congr 1
      omega
    · cases hc
  have hlt : ∀ {p : Nat} {x : NodeD}, f.nodes[p]? = some x → ∀ k, doneAt f.nodes.length 0 p k := fun hx k => .inl (List.getElem?_eq_some_iff.1 hx).1
  refine ⟨?_, ?_, ?_, ?_, h0⟩
  · intro p c hc
    obtain ⟨x, k, _, _, h1, h2⟩ := hget hc
    exact ⟨h1, h2⟩
  · intro p
    unfold kidsOf
    split
    · rename_i x hx
      refine nodup_of fun a b c hab h1 h2 => ?_
      rw [List.getElem?_map] at h1 h2
      obtain ⟨d1, g1, e1⟩ := Option.map_eq_some_iff.1 h1
      obtain ⟨d2, g2, e2⟩ := Option.map_eq_some_iff.1 h2
      obtain ⟨j1, _, f1, _⟩ := hI.kid p x hx a _ g1 (hlt hx a)
      obtain ⟨j2, _, f2, _⟩ := hI.kid p x hx b _ g2 (hlt hx b)
      have hee : d1 = d2 := by omega
      subst hee
      have := (hI.uniq p p x x hx hx a b d1 g1 g2 (hlt hx a) (hlt hx b)).2
      omega
    · exact List.nodup_nil
  · intro p q c hp hq
    obtain ⟨x, k, h1, h2, _, _⟩ := hget hp
    obtain ⟨y, m, g1, g2, _, _⟩ := hget hq
    exact (hI.uniq p q x y h1 g1 k m c h2 g2 (hlt h1 k) (hlt g1 m)).1
  · intro c hc hn
    obtain ⟨pl, hp, hh⟩ := looked_has h c hn
    rcases hI.from0 c pl hp hh with h | ⟨i', x, k, h1, h2, _⟩
    · omega
    · refine ⟨i', ?_⟩
      unfold kidsOf
      rw [h1]
      exact List.mem_map.2 ⟨(c : Int), List.mem_of_getElem? h2, by omega⟩

/-- What stands between two rounds: what is done, and what is to do (the last one first). -/
structure DI (kids : Nat → List Nat) (n : Nat) (S out : List Nat) : Prop where
  nd : (out ++ S).Nodup
  lt : ∀ x ∈ out ++ S, x < n
  z : 0 ∈ out ++ S
  cl : ∀ x ∈ out, ∀ c ∈ kids x, c ∈ out ++ S
  par : ∀ x ∈ out ++ S, x = 0 ∨ ∃ p ∈ out, x ∈ kids p
  o1 : ∀ (a b : Nat) p c, out[a]? = some p → out[b]? = some c → c ∈ kids p → a < b
  o2 : ∀ (p k c1 c2 : Nat), (kids p)[k]? = some c1 → (kids p)[k + 1]? = some c2 → ∀ b1 : Nat, out[b1]? = some c1 → ∃ b2 : Nat, b2 < b1 ∧ out[b2]? = some c2
  o3 : ∀ (p k c1 c2 : Nat), (kids p)[k]? = some c1 → (kids p)[k + 1]? = some c2 → ∀ a1 a2 : Nat, S[a1]? = some c1 → S[a2]? = some c2 → a1 < a2

theorem di_start {kids : Nat → List Nat} {n : Nat} (hT : Tree kids n) : DI kids n [0] [] :=
  ⟨by simp, by simp [hT.pos], by simp, by simp, by simp, by simp, by simp, by
    intro p k c1 c2 h1 h2 a1 a2 g1 g2
    have z : ∀ (a c : Nat), ([0] : List Nat)[a]? = some c → c = 0 := by
      intro a c h
      cases a with
      | zero => simpa using h.symm
      | succ a => simp at h
    have e1 := z a1 c1 g1
    have := (hT.up p c1 (List.mem_of_getElem? h1)).1
    omega⟩

theorem di_step {kids : Nat → List Nat} {n : Nat} (hT : Tree kids n) {S out : List Nat} {at' : Nat} (h : DI kids n (S ++ [at']) out) : DI kids n (S ++ kids at') (out ++ [at']) := by
  have hnd := h.nd
  rw [← List.append_assoc] at hnd
  obtain ⟨n1, n2, n3⟩ := List.nodup_append.1 hnd
  obtain ⟨m1, m2, m3⟩ := List.nodup_append.1 n1
  have hat_out : at' ∉ out := fun hm => n3 at' (by simp [hm]) at' (by simp) rfl
  have hat_S : at' ∉ S := fun hm => n3 at' (by simp [hm]) at' (by simp) rfl
  have hnew : ∀ c ∈ kids at', c ∉ out ++ (S ++ [at']) := by
    intro c hc hm
    rcases h.par c hm with h0 | ⟨p, hp, hcp⟩
    · have := (hT.up at' c hc).1; omega
    · have := hT.one at' p c hc hcp
      subst this
      exact hat_out hp
  have mem1 : ∀ x, x ∈ (out ++ [at']) ++ (S ++ kids at') ↔ x ∈ out ++ (S ++ [at']) ∨ x ∈ kids at' := by
    intro x
    simp only [List.mem_append, List.mem_cons, List.not_mem_nil, or_false]
    constructor
    · rintro ((h | h) | (h | h))
      · exact .inl (.inl h)
      · exact .inl (.inr (.inr h))
      · exact .inl (.inr (.inl h))
      · exact .inr h
    · rintro ((h | (h | h)) | h)
      · exact .inl (.inl h)
      · exact .inr (.inl h)
      · exact .inl (.inr h)
      · exact .inr (.inr h)
  refine ⟨?_, ?_, ?_, ?_, ?_, ?_, ?_, ?_⟩
  · rw [List.nodup_append]
    refine ⟨?_, ?_, ?_⟩
    · rw [List.nodup_append]
      exact ⟨m1, by simp, fun a ha b hb e => by simp at hb; subst hb; subst e; exact hat_out ha⟩
    · rw [List.nodup_append]
      exact ⟨m2, hT.nodup at', fun a ha b hb e => hnew b hb (by subst e; simp [ha])⟩
    · intro a ha b hb e
      subst e
      rcases List.mem_append.1 hb with hb | hb
      · rename_i hb0
        rcases List.mem_append.1 ha with ha | ha
        · exact m3 a ha a hb rfl
        · simp at ha; rw [ha] at hb; exact hat_S hb
      · exact hnew a hb (by
          rcases List.mem_append.1 ha with ha | ha
          · simp [ha]
          · simp at ha; simp [ha])
  · intro x hx
    rcases (mem1 x).1 hx with hx | hx
    · exact h.lt x hx
    · exact (hT.up at' x hx).2
  · exact (mem1 0).2 (.inl h.z)
  · intro x hx c hc
    rcases List.mem_append.1 hx with hx | hx
    · exact (mem1 c).2 (.inl (h.cl x hx c hc))
    · simp at hx; subst hx; exact (mem1 c).2 (.inr hc)
  · intro x hx
    rcases (mem1 x).1 hx with hx | hx
    · rcases h.par x hx with h0 | ⟨p, hp, hc⟩
      · exact .inl h0
      · exact .inr ⟨p, by simp [hp], hc⟩
    · exact .inr ⟨at', by simp, hx⟩
  · intro a b p c ha hb hc
    by_cases hal : a < out.length
    · rw [List.getElem?_append_left hal] at ha
      by_cases hbl : b < out.length
      · rw [List.getElem?_append_left hbl] at hb
        exact h.o1 a b p c ha hb hc
      · omega
    · rw [List.getElem?_append_right (by omega)] at ha
      have ha0 : a - out.length = 0 := by
        rcases Nat.eq_zero_or_pos (a - out.length) with h | h
        · exact h
        · rw [List.getElem?_eq_none (by simp; omega)] at ha; cases ha
      rw [ha0] at ha
      simp at ha
      subst ha
      exfalso
      have hm : c ∈ out ++ [at'] := List.mem_of_getElem? hb
      refine hnew c hc ?_
      rcases List.mem_append.1 hm with hm | hm
      · simp [hm]
      · simp at hm; simp [hm]
  · intro p k c1 c2 h1 h2 b1 hb1
    by_cases hbl : b1 < out.length
    · rw [List.getElem?_append_left hbl] at hb1
      obtain ⟨b2, g1, g2⟩ := h.o2 p k c1 c2 h1 h2 b1 hb1
      exact ⟨b2, g1, by rw [List.getElem?_append_left (by omega)]; exact g2⟩
    · rw [List.getElem?_append_right (by omega)] at hb1
      have ha0 : b1 - out.length = 0 := by
        rcases Nat.eq_zero_or_pos (b1 - out.length) with h | h
        · exact h
        · rw [List.getElem?_eq_none (by simp; omega)] at hb1; cases hb1
      rw [ha0] at hb1
      simp at hb1
      subst hb1
      -- the one at the top is the kid k of p: the kid behind it is done
      have hp : p ∈ out := by
        rcases h.par at' (by simp) with h0 | ⟨q, hq, hc⟩
        · have := (hT.up p at' (List.mem_of_getElem? h1)).1; omega
        · have := hT.one p q at' (List.mem_of_getElem? h1) hc
          subst this; exact hq
      have hc2 := h.cl p hp c2 (List.mem_of_getElem? h2)
      rcases List.mem_append.1 hc2 with hc2 | hc2
      · obtain ⟨b2, hb2, e⟩ := List.mem_iff_getElem.1 hc2
        exact ⟨b2, by omega, by rw [List.getElem?_append_left hb2, List.getElem?_eq_getElem hb2, e]⟩
      · exfalso
        obtain ⟨a2, ha2, e⟩ := List.mem_iff_getElem.1 hc2
        have := h.o3 p k at' c2 h1 h2 S.length a2 (by rw [List.getElem?_append_right (Nat.le_refl _)]; simp) (by rw [List.getElem?_eq_getElem ha2, e])
        simp at ha2
        omega
  · intro p k c1 c2 h1 h2 a1 a2 g1 g2
    have hpar : ∀ {c : Nat}, c ∈ kids p → c ∈ S → p ≠ at' := by
      intro c hc hm e
      subst e
      exact hnew c hc (by simp [hm])
    by_cases l1 : a1 < S.length
    · rw [List.getElem?_append_left l1] at g1
      by_cases l2 : a2 < S.length
      · rw [List.getElem?_append_left l2] at g2
        exact h.o3 p k c1 c2 h1 h2 a1 a2 (by rw [List.getElem?_append_left l1]; exact g1) (by rw [List.getElem?_append_left l2]; exact g2)
      · omega
    · rw [List.getElem?_append_right (by omega)] at g1
      have hp1 : p = at' := hT.one p at' c1 (List.mem_of_getElem? h1) (List.mem_of_getElem? g1)
      subst hp1
      by_cases l2 : a2 < S.length
      · rw [List.getElem?_append_left l2] at g2
        exact absurd rfl (hpar (List.mem_of_getElem? h2) (List.mem_of_getElem? g2))
      · rw [List.getElem?_append_right (by omega)] at g2
        have inj : ∀ {a b c : Nat}, (kids p)[a]? = some c → (kids p)[b]? = some c → a = b := nodup_inj (hT.nodup p)
        have e1 := inj g1 h1
        have e2 := inj g2 h2
        omega

theorem di_room {kids : Nat → List Nat} {n : Nat} {S out : List Nat} (h : DI kids n S out) : out.length + S.length ≤ n := by
  have := nodup_le n _ h.nd h.lt
  simpa using this
/-- At the end all are done. -/
theorem di_end {kids : Nat → List Nat} {n : Nat} (hT : Tree kids n) {out : List Nat} (h : DI kids n [] out) : out.length = n ∧ ∀ x, x < n → x ∈ out := by
  have hall : ∀ x, x < n → x ∈ out := by
    intro x
    induction x using Nat.strongRecOn with
    | _ x ih =>
      intro hx
      rcases Nat.eq_zero_or_pos x with rfl | h0
      · simpa using h.z
      · obtain ⟨p, hp⟩ := hT.all x h0 hx
        have hpx := hT.up p x hp
        have := h.cl p (ih p hpx.1 (by omega)) x hp
        simpa using this
  refine ⟨?_, hall⟩
  have h1 := di_room h
  have h2 : n ≤ out.length := by
    have : (List.range n).length ≤ out.length := by
      apply List.Nodup.length_le_of_subset
      · exact List.nodup_range
      · intro x hx; exact hall x (List.mem_range.1 hx)
    simpa using this
  simp at h1
  omega
end Go.Proofs.Ytpopkajkekceiaa
