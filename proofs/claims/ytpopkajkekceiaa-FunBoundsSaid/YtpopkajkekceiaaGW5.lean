/-
  A part of a proof: texts laid behind one another (W36, W37, W38, W39).
-/
import Derived.Test.YtpopkajkekceiaaGW4
namespace Go.Proofs.Ytpopkajkekceiaa
open Go Go.Abs
set_option maxRecDepth 100000
set_option linter.unusedSimpArgs false
set_option linter.unusedVariables false

/-! ### Nested lets, plainly -/
def boundsN : Nat → Nat → List NodeD
  | _, 0 => [⟨2, 0, []⟩]
  | i, d + 1 => ⟨4, 0, [2 * (i : Int) + 1, 2 * (i : Int) + 2]⟩ :: ⟨2, 0, []⟩ :: boundsN (i + 1) d
theorem boundsN_length : ∀ (d i : Nat), (boundsN i d).length = 2 * d + 1
  | 0, i => rfl
  | d + 1, i => by simp only [boundsN, List.length_cons, boundsN_length d]; omega

structure BInv (n i : Nat) (v : Int) (ps : List Pl) : Prop where
  len : ps.length = n
  here : ∃ a, ps[2 * i]? = some ⟨a, v, true⟩
  free : ∀ j, 2 * i < j → j < n → ∃ p, ps[j]? = some p ∧ p.has = false

theorem within_v {a b c v : Int} (h : b ≤ a ∧ a ≤ c) (hv0 : 0 ≤ v) : withinL [a, b, c, v, 0, 64] = decide (v ≤ 64) := by
  simp only [withinL]
  rw [if_neg (by omega)]
  by_cases hv : v ≤ 64
  · rw [if_neg (by omega), decide_eq_true hv]
  · rw [if_pos (by omega), decide_eq_false hv]

theorem leaf_step {n i : Nat} {ps : List Pl} {a v : Int} (h : ps[i]? = some ⟨a, v, true⟩) (hv0 : 0 ≤ v) : nodeStep n i ⟨2, 0, []⟩ ps = if v ≤ 64 then some ps else none := by
  have hw : withinL [(([] : List Int).length : Int), (shapeOf (2 : Int).toNat).2.1, (shapeOf (2 : Int).toNat).2.2, v, 0, 64] = decide (v ≤ 64) := within_v (by decide) hv0
  have hno : numberOk (shapeOf (2 : Int).toNat).1 0 v = true := rfl
  simp only [nodeStep, h]
  rw [if_pos (show True ∧ (0 : Int) ≤ _ ∧ _ from ⟨trivial, by decide, by decide⟩), hw, hno]
  by_cases hv : v ≤ 64
  · rw [if_pos hv, if_pos ⟨rfl, decide_eq_true hv⟩]; rfl
  · rw [if_neg hv, if_neg (fun h => hv (of_decide_eq_true h.2))]
theorem let_step {n i : Nat} {ps : List Pl} {v : Int} (h : BInv n i v ps) (hn : 2 * i + 2 < n) (hv0 : 0 ≤ v) :
    nodeStep n (2 * i) ⟨4, 0, [2 * (i : Int) + 1, 2 * (i : Int) + 2]⟩ ps = if v ≤ 64 then some ((ps.set (2 * i + 1) ⟨((2 * i : Nat) : Int), v, true⟩).set (2 * i + 2) ⟨((2 * i : Nat) : Int), v + 1, true⟩) else none := by
  obtain ⟨a, ha⟩ := h.here
  have hw : withinL [(([2 * (i : Int) + 1, 2 * (i : Int) + 2] : List Int).length : Int), (shapeOf (4 : Int).toNat).2.1, (shapeOf (4 : Int).toNat).2.2, v, 0, 64] = decide (v ≤ 64) := within_v (by simp only [List.length_cons, List.length_nil]; decide) hv0
  have hno : numberOk (shapeOf (4 : Int).toNat).1 0 v = true := rfl
  simp only [nodeStep, ha]
  rw [if_pos (show True ∧ (0 : Int) ≤ _ ∧ _ from ⟨trivial, by decide, by decide⟩), hw, hno]
  by_cases hv : v ≤ 64
  · rw [if_pos hv, if_pos ⟨rfl, decide_eq_true hv⟩]
    obtain ⟨p1, hp1, hh1⟩ := h.free (2 * i + 1) (by omega) (by omega)
    obtain ⟨p2, hp2, hh2⟩ := h.free (2 * i + 2) (by omega) (by omega)
    have t1 : (2 * (i : Int) + 1).toNat = 2 * i + 1 := by omega
    have t2 : (2 * (i : Int) + 2).toNat = 2 * i + 2 := by omega
    simp only [lookKids, t1, t2]
    rw [if_pos (by omega), hp1]
    simp only [hh1]
    rw [if_neg (by simp), if_pos (by omega), List.getElem?_set_ne (by omega), hp2]
    simp only [hh2]
    rw [if_neg (by simp)]
    simp
  · rw [if_neg hv, if_neg (fun h => hv (of_decide_eq_true h.2))]

theorem bounds_from {n : Nat} : ∀ (d i : Nat) (v : Int) (ps : List Pl), n = 2 * i + 2 * d + 1 → 0 ≤ v → v ≤ 65 → BInv n i v ps →
    (v + d ≤ 64 → ∃ ps' a, lookFrom n (2 * i) (boundsN i d) ps = .ok ps' ∧ ps'[2 * (i + d)]? = some ⟨a, v + d, true⟩) ∧
    (64 < v + d → ∃ k, lookFrom n (2 * i) (boundsN i d) ps = .error k ∧ (k : Int) = 2 * (i + 65 - v))
  | 0, i, v, ps, hn, hv0, hv, hI => by
    obtain ⟨a, ha⟩ := hI.here
    simp only [boundsN]
    rw [lookFrom_cons, leaf_step ha hv0]
    constructor
    · intro h
      rw [if_pos (by omega)]
      exact ⟨ps, a, rfl, by simpa using ha⟩
    · intro h
      rw [if_neg (by omega)]
      exact ⟨_, rfl, by omega⟩
  | d + 1, i, v, ps, hn, hv0, hv, hI => by
    simp only [boundsN]
    rw [lookFrom_cons, let_step hI (by omega) hv0]
    by_cases hv64 : v ≤ 64
    · rw [if_pos hv64]
      simp only
      have hlen := hI.len
      have h1 : ((ps.set (2 * i + 1) ⟨((2 * i : Nat) : Int), v, true⟩).set (2 * i + 2) ⟨((2 * i : Nat) : Int), v + 1, true⟩)[2 * i + 1]? = some ⟨((2 * i : Nat) : Int), v, true⟩ := by
        rw [List.getElem?_set_ne (by omega), List.getElem?_set_self (by omega)]
      rw [lookFrom_cons, leaf_step h1 hv0, if_pos hv64]
      simp only
      have hI2 : BInv n (i + 1) (v + 1) ((ps.set (2 * i + 1) ⟨((2 * i : Nat) : Int), v, true⟩).set (2 * i + 2) ⟨((2 * i : Nat) : Int), v + 1, true⟩) := by
        refine ⟨by simpa using hlen, ⟨((2 * i : Nat) : Int), ?_⟩, fun j h1 h2 => ?_⟩
        · rw [show 2 * (i + 1) = 2 * i + 2 by omega, List.getElem?_set_self (by simp; omega)]
        · rw [List.getElem?_set_ne (by omega), List.getElem?_set_ne (by omega)]
          exact hI.free j (by omega) h2
      obtain ⟨g1, g2⟩ := bounds_from d (i + 1) (v + 1) _ (by omega) (by omega) (by omega) hI2
      rw [show 2 * i + 1 + 1 = 2 * (i + 1) by omega]
      constructor
      · intro h
        obtain ⟨ps', a, e1, e2⟩ := g1 (by omega)
        refine ⟨ps', a, e1, ?_⟩
        rw [show 2 * (i + (d + 1)) = 2 * (i + 1 + d) by omega, e2]
        congr 2
        omega
      · intro h
        obtain ⟨k, e1, e2⟩ := g2 (by omega)
        exact ⟨k, e1, by omega⟩
    · rw [if_neg hv64]
      constructor
      · intro h; omega
      · intro h; exact ⟨_, rfl, by omega⟩

theorem bounds_looked (lets : Nat) (params : Int) :
    (params < 0 ∨ 9 < params ∨ 99 < lets → lookedL ⟨params, boundsN 0 lets⟩ = .error 0) ∧
    (¬ (params < 0 ∨ 9 < params ∨ 99 < lets) → 64 < params + lets → ∃ k, lookedL ⟨params, boundsN 0 lets⟩ = .error k ∧ (k : Int) = 2 * (65 - params)) ∧
    (¬ (params < 0 ∨ 9 < params ∨ 99 < lets) → params + lets ≤ 64 → ∃ ps a, lookedL ⟨params, boundsN 0 lets⟩ = .ok ps ∧ ps[2 * lets]? = some ⟨a, params + lets, true⟩) := by
  have hl := boundsN_length lets 0
  refine ⟨fun h => ?_, ?_⟩
  · unfold lookedL
    simp only
    rw [if_neg]
    intro h2
    simp only [withinL, hl] at h2
    split at h2
    · cases h2
    · rw [if_pos (by omega)] at h2; cases h2
  · have hgo : ¬ (params < 0 ∨ 9 < params ∨ 99 < lets) → lookedL ⟨params, boundsN 0 lets⟩ = lookFrom (2 * lets + 1) (2 * 0) (boundsN 0 lets) ((List.replicate (2 * lets + 1) ⟨0, 0, false⟩).set 0 ⟨0, params, true⟩) := by
      intro h
      unfold lookedL
      simp only [hl]
      rw [if_pos]
      simp only [withinL]
      rw [if_neg (by omega), if_neg (by omega)]
    have hI : BInv (2 * lets + 1) 0 params ((List.replicate (2 * lets + 1) ⟨0, 0, false⟩).set 0 ⟨0, params, true⟩) := by
      refine ⟨by simp, ⟨0, by rw [List.getElem?_set_self (by simp)]⟩, fun j h1 h2 => ?_⟩
      rw [List.getElem?_set_ne (by omega), List.getElem?_replicate, if_pos h2]
      exact ⟨_, rfl, rfl⟩
    constructor
    · intro h h64
      rw [hgo h]
      obtain ⟨_, g2⟩ := bounds_from lets 0 params _ (by omega) (by omega) (by omega) hI
      obtain ⟨k, e1, e2⟩ := g2 (by omega)
      exact ⟨k, e1, by omega⟩
    · intro h h64
      rw [hgo h]
      obtain ⟨g1, _⟩ := bounds_from lets 0 params _ (by omega) (by omega) (by omega) hI
      obtain ⟨ps', a, e1, e2⟩ := g1 (by omega)
      exact ⟨ps', a, e1, by rw [← e2]; congr 1; omega⟩

theorem bounds_where (lets : Nat) (params : Int) : whereL ⟨params, boundsN 0 lets⟩ = if params < 0 ∨ 9 < params ∨ 99 < lets then (0, 60) else if 64 < params + lets then (2 * (65 - params), 60) else (0, 0) := by
  obtain ⟨h1, h2, h3⟩ := bounds_looked lets params
  unfold whereL
  split
  · rename_i ps hps
    split
    · rename_i h; rw [h1 h] at hps; cases hps
    · rename_i h
      split
      · rename_i h'; obtain ⟨k, e, _⟩ := h2 h h'; rw [e] at hps; cases hps
      · rfl
  · rename_i k hk
    split
    · rename_i h; rw [h1 h] at hk; cases hk; rfl
    · rename_i h
      split
      · rename_i h'; obtain ⟨k', e, e2⟩ := h2 h h'; rw [e] at hk; cases hk; rw [e2]
      · rename_i h'; obtain ⟨ps, a, e, _⟩ := h3 h (by omega); rw [e] at hk; cases hk
theorem bounds_placed {lets : Nat} {params : Int} (h : ¬ (params < 0 ∨ 9 < params ∨ 99 < lets)) (h64 : params + lets ≤ 64) : (placedL ⟨params, boundsN 0 lets⟩ (2 * (lets : Int))).1.vars = params + lets ∧ (placedL ⟨params, boundsN 0 lets⟩ (2 * (lets : Int))).2 = 0 := by
  obtain ⟨ps, a, e1, e2⟩ := (bounds_looked lets params).2.2 h h64
  have hl := boundsN_length lets 0
  unfold placedL
  rw [e1]
  simp only [hl]
  rw [if_pos (by omega)]
  simp only [List.getD_eq_getElem?_getD]
  rw [show (2 * (lets : Int)).toNat = 2 * lets by omega, e2]
  exact ⟨rfl, trivial⟩
end Go.Proofs.Ytpopkajkekceiaa

namespace Go.Proofs.Ytpopkajkekceiaa
open Go Go.Abs
set_option maxRecDepth 100000
set_option linter.unusedSimpArgs false
set_option linter.unusedVariables false

/-! ### FunBounds, walked -/
noncomputable def c5 : List (Contract Try.prog) := [worksC, numC, whereC, depthC]
noncomputable def callB : CallF := orC (callOf c5) (ev1 Try.prog (fun _ _ => none) 0)
theorem callB_ok : CallOk Try.prog callB := orC_ok (callOf_ok _) (ev1_sound noCall_ok)
theorem callB_fn {f : FuncId} {args : List Value} {H : Heap} (h1 : f ≠ 10) (h2 : f ≠ 13) (h3 : f ≠ 11) (h4 : f ≠ 15) : callB (.fn f args) H = evFn Try.prog (fun _ _ => none) 0 f args H := by
  unfold callB
  rw [orC_miss (by unfold c5; rw [callOf_miss h1, callOf_miss h2, callOf_miss h3, callOf_miss h4]; rfl)]
  rfl
theorem callB_works {H : Heap} : callB (.fn 10 []) H = some (.ret (.bool true), H) := orC_hit (callOf_hit rfl rfl)
theorem callB_num {H : Heap} {n : Int} : callB (.fn 13 [.int .i64 n]) H = some (.ret (.int .i64 n), H) := orC_hit (by unfold c5; rw [callOf_miss (by decide)]; exact callOf_hit rfl rfl)
theorem callB_where {H : Heap} {v : Value} {f : FunD} (h : rdFit H v = some f) : callB (.fn 11 [v]) H = some (.ret (.tuple #[.int .i64 (whereL f).1, .int .i64 (whereL f).2]), H) :=
  orC_hit (by unfold c5; rw [callOf_miss (by decide), callOf_miss (by decide)]; exact where_hit h)
theorem callB_depth {H : Heap} {v : Value} {f : FunD} {n : Int} (h : rdFit H v = some f) : callB (.fn 15 [v, .int .i64 n]) H = some (.ret (.tuple #[.int .i64 (placedL f n).1.vars, .int .i64 (placedL f n).2]), H) :=
  orC_hit (by
    unfold c5; rw [callOf_miss (by decide), callOf_miss (by decide), callOf_miss (by decide)]
    refine callOf_hit rfl ?_
    simp [depthC, Contract.plain, h])

/-- A heap in which all that stood in another one but a block stands. -/
structure Kept (H H' : Heap) (x : Option Nat) : Prop where
  wf : H'.Wf
  le : H.next ≤ H'.next
  get : ∀ b, b < H.next → some b ≠ x → H'.get b = H.get b
theorem Kept.refl {H : Heap} (hw : H.Wf) (x : Option Nat) : Kept H H x := ⟨hw, Nat.le_refl _, fun _ _ _ => rfl⟩
theorem Kept.push {H H' : Heap} {x : Option Nat} (h : Kept H H' x) (o : AObj) : Kept H (H'.push o) x :=
  ⟨h.wf.push o, by have := h.le; simp; omega, fun b hb hx => by rw [get_push_ne (by have := h.le; omega)]; exact h.get b hb hx⟩
theorem Kept.set {H H' : Heap} {x : Option Nat} (h : Kept H H' x) {c : Nat} (hc : H.next ≤ c) (hc2 : c < H'.next) (o : AObj) : Kept H (H'.set c o) x :=
  ⟨h.wf.set hc2 o, h.le, fun b hb hx => by rw [get_set_ne (by omega)]; exact h.get b hb hx⟩
theorem Kept.kill {H H' : Heap} {x : Nat} (h : Kept H H' (some x)) (hx : x < H'.next) (o : AObj) : Kept H (H'.set x o) (some x) :=
  ⟨h.wf.set hx o, h.le, fun b hb hn => by rw [get_set_ne (fun e => hn (by rw [e]))]; exact h.get b hb hn⟩
theorem Kept.trans {A B C : Heap} {x : Option Nat} (h : Kept A B x) (k : Kept B C x) : Kept A C x :=
  ⟨k.wf, Nat.le_trans h.le k.le, fun b hb hn => (k.get b (Nat.lt_of_lt_of_le hb h.le) hn).trans (h.get b hb hn)⟩
theorem Kept.weak {H H' : Heap} (h : Kept H H' none) (x : Option Nat) : Kept H H' x := ⟨h.wf, h.le, fun b hb _ => h.get b hb (by simp)⟩

theorem built40 {op n : Int} {x : Option Addr} {a c : Nat} : Try.prog.built 40 [(0, .int .i64 op), (1, .int .i64 n), (2, .slice x a c)] = some #[.int .i64 op, .int .i64 n, .slice x a c] := by kernel_rfl
theorem built24 {p : Int} {x : Option Addr} {a c : Nat} : Try.prog.built 24 [(0, .int .i64 p), (1, .slice x a c)] = some #[.int .i64 p, .slice x a c] := by kernel_rfl
theorem node_run {H : Heap} {op n : Int} {x : Option Addr} {a c : Nat} {s : Value} (hsl : s = .slice x a c) (hw : H.Wf) :
    ∃ H', callB (.fn 19 [.int .i64 op, .int .i64 n, s]) H = some (.ret (.agg #[.int .i64 op, .int .i64 n, s]), H') ∧ Kept H H' none := by
  have hs : oneC s = true := by subst hsl; rfl
  have st := store3 (H := H) (a := .int .i64 op) (b := .int .i64 n) (c := s) (x := .int .i64 0) (y := .int .i64 0) (z := .slice none 0 0) rfl rfl hs 40 _ info40 (by simp)
  have hb : Try.prog.built 40 [(0, .int .i64 op), (1, .int .i64 n), (2, s)] = some #[.int .i64 op, .int .i64 n, s] := by subst hsl; exact built40
  have ld : loadA Try.prog 40 ((H.push (.cells true 3 [.int .i64 0, .int .i64 0, .slice none 0 0])).set H.next (.cells true 3 [.int .i64 op, .int .i64 n, s])) H.next 0 = some (.agg #[.int .i64 op, .int .i64 n, s]) := by
    simp [loadA, get_set_self]
  refine ⟨(H.push (.cells true 3 [.int .i64 0, .int .i64 0, .slice none 0 0])).set H.next (.cells true 3 [.int .i64 op, .int .i64 n, s]), ?_, ((Kept.refl hw none).push _).set (Nat.le_refl _) (by simp) _⟩
  rw [callB_fn (by decide) (by decide) (by decide) (by decide)]
  simp [Try.f19, hb, st, ld]

theorem of_run {H : Heap} {p : Int} {x : Option Addr} {a c : Nat} {s : Value} (hsl : s = .slice x a c) (hw : H.Wf) :
    ∃ H', callB (.fn 20 [.int .i64 p, s]) H = some (.ret (.agg #[.int .i64 p, s]), H') ∧ Kept H H' none := by
  have hs : oneC s = true := by subst hsl; rfl
  have st : storeA Try.prog 24 (H.push (.cells true 2 [.int .i64 0, .slice none 0 0])) H.next 0 (.agg #[.int .i64 p, s]) = some ((H.push (.cells true 2 [.int .i64 0, .slice none 0 0])).set H.next (.cells true 2 [.int .i64 p, s])) := by
    simp [storeA, get_push_self, hs, putL]
  have hb : Try.prog.built 24 [(0, .int .i64 p), (1, s)] = some #[.int .i64 p, s] := by subst hsl; exact built24
  have ld : loadA Try.prog 24 ((H.push (.cells true 2 [.int .i64 0, .slice none 0 0])).set H.next (.cells true 2 [.int .i64 p, s])) H.next 0 = some (.agg #[.int .i64 p, s]) := by
    simp [loadA, get_set_self]
  refine ⟨(H.push (.cells true 2 [.int .i64 0, .slice none 0 0])).set H.next (.cells true 2 [.int .i64 p, s]), ?_, ((Kept.refl hw none).push _).set (Nat.le_refl _) (by simp) _⟩
  rw [callB_fn (by decide) (by decide) (by decide) (by decide)]
  simp [Try.f20, hb, st, ld]
end Go.Proofs.Ytpopkajkekceiaa

namespace Go.Proofs.Ytpopkajkekceiaa
open Go Go.Abs
set_option maxRecDepth 100000
set_option linter.unusedSimpArgs false
set_option linter.unusedVariables false

def blockOf : Value → Option Nat
  | .slice (some a) _ _ => some a.block
  | _ => none

theorem app22 {H : Heap} {n m bx : Nat} {v : Value} {cs ds : List Value} (hw : H.Wf) (hv : (n = 0 ∧ v = .slice none 0 0 ∧ cs = []) ∨ ∃ b, v = .slice (some ⟨b, 0, none⟩) n BIG ∧ H.get b = some (.cells true 3 cs))
    (hcl : cs.length = n * 3) (hx : H.get bx = some (.cells true 3 ds)) (hdl : ds.length = m * 3) (hm : 0 < m) (hn : n + m ≤ 1073741824) (h1 : ds.all oneC = true) :
    ∃ H', builtinA Try.prog .append #[22, 22] [v, .slice (some ⟨bx, 0, none⟩) m m] H = some (.val (.slice (some ⟨H.next, 0, none⟩) (n + m) BIG), H') ∧ H'.get H.next = some (.cells true 3 (cs ++ ds)) ∧ Kept H H' (blockOf v) ∧ H.next < H'.next := by
  have hz : zeroA Try.prog 40 = some (.agg #[.int .i64 0, .int .i64 0, .slice none 0 0], 3) := by kernel_rfl
  have hby : Try.t40.bytes ≤ 65536 := by decide
  have hcx : cellsA H 3 (.slice (some ⟨bx, 0, none⟩) m m) = some ds := by
    simp only [cellsA, hx]
    rw [if_pos (by omega), List.drop_zero, List.take_of_length_le (by omega)]
  have hne : ¬ m = 0 := by omega
  rcases hv with ⟨rfl, rfl, rfl⟩ | ⟨b, rfl, hb⟩
  · refine ⟨H.push (.cells true 3 ds), ?_, get_push_self _ _, (Kept.refl hw _).push _, by simp⟩
    have hc0 : cellsA H 3 (.slice none 0 0) = some [] := rfl
    simp only [builtinA, appendA, elem22, hz, size40, hcx, hc0, lenA, if_true]
    rw [if_pos ⟨hby, hn, by decide, by rfl, h1⟩, if_neg hne]
    simp
  · have hlt := hw.lt hb
    have hcb : cellsA H 3 (.slice (some ⟨b, 0, none⟩) n BIG) = some cs := by
      simp only [cellsA, hb]
      rw [if_pos (by omega), List.drop_zero, List.take_of_length_le (by omega)]
    refine ⟨(H.set b .dead).push (.cells true 3 (cs ++ ds)), ?_, get_push_self (H.set b .dead) _, ((Kept.refl hw (some b)).kill hlt _).push _, by simp⟩
    simp only [builtinA, appendA, elem22, hz, size40, hcx, hcb, lenA, if_true]
    rw [if_pos ⟨hby, hn, by decide, by rfl, h1⟩, if_neg hne, if_neg (Nat.lt_irrefl _)]
    simp only [hb, if_true]
    simp

theorem build2 {H : Heap} {k0 k1 : IntKind} {a b : Int} : buildSliceA Try.prog 38 2 [(0, .int k0 a), (1, .int k1 b)] H = some (.slice (some ⟨H.next, 0, none⟩) 2 2, H.push (.cells true 1 [.int k0 a, .int k1 b])) := by rfl
theorem build22 {H : Heap} {a b a' b' : Int} {x y : Option Addr} {n c n' c' : Nat} : buildSliceA Try.prog 22 2 [(0, .agg #[.int .i64 a, .int .i64 b, .slice x n c]), (1, .agg #[.int .i64 a', .int .i64 b', .slice y n' c'])] H =
    some (.slice (some ⟨H.next, 0, none⟩) 2 2, H.push (.cells true 3 [.int .i64 a, .int .i64 b, .slice x n c, .int .i64 a', .int .i64 b', .slice y n' c'])) := by kernel_rfl
theorem build21 {H : Heap} {a b : Int} {x : Option Addr} {n c : Nat} : buildSliceA Try.prog 22 1 [(0, .agg #[.int .i64 a, .int .i64 b, .slice x n c])] H =
    some (.slice (some ⟨H.next, 0, none⟩) 1 1, H.push (.cells true 3 [.int .i64 a, .int .i64 b, .slice x n c])) := by kernel_rfl

def midN : Nat → Nat → List NodeD
  | _, 0 => []
  | i, d + 1 => ⟨4, 0, [2 * (i : Int) + 1, 2 * (i : Int) + 2]⟩ :: ⟨2, 0, []⟩ :: midN (i + 1) d
theorem midN_snoc : ∀ (d i : Nat), midN i (d + 1) = midN i d ++ [⟨4, 0, [2 * ((i + d : Nat) : Int) + 1, 2 * ((i + d : Nat) : Int) + 2]⟩, ⟨2, 0, []⟩]
  | 0, i => by simp [midN]
  | d + 1, i => by
    rw [midN, midN_snoc d (i + 1)]
    simp only [midN, List.cons_append]
    rw [show i + 1 + d = i + (d + 1) by omega]
theorem boundsN_mid : ∀ (d i : Nat), boundsN i d = midN i d ++ [⟨2, 0, []⟩]
  | 0, i => rfl
  | d + 1, i => by simp only [boundsN, midN, boundsN_mid d, List.cons_append]

/-- A node that stands in the table, whose slice is another block than the table. -/
def okX (H : Heap) (b : Option Nat) (x : List Value) : Prop := ∃ op n s node, x = [.int .i64 op, .int .i64 n, s] ∧ rdNode H x = some node ∧ (s = .slice none 0 0 ∨ ∃ c k, s = .slice (some ⟨c, 0, none⟩) k k ∧ c < H.next ∧ some c ≠ b)
theorem okX.keep {H H' : Heap} {b : Option Nat} (hk : Kept H H' b) {x : List Value} (h : okX H b x) : rdNode H' x = rdNode H x := by
  obtain ⟨op, n, s, node, rfl, h1, h2⟩ := h
  rcases h2 with rfl | ⟨c, k, rfl, h3, h4⟩
  · rfl
  · simp only [rdNode, rdInts, rdS, hk.get c h3 h4]
theorem okX.move {H H' : Heap} {b b' : Option Nat} (hk : Kept H H' b) (hb : ∀ c, b' = some c → H.next ≤ c) {x : List Value} (h : okX H b x) : okX H' b' x := by
  have hr := h.keep hk
  obtain ⟨op, n, s, node, rfl, h1, h2⟩ := h
  refine ⟨op, n, s, node, rfl, hr.trans h1, ?_⟩
  rcases h2 with rfl | ⟨c, k, rfl, h3, h4⟩
  · exact .inl rfl
  · exact .inr ⟨c, k, rfl, Nat.lt_of_lt_of_le h3 hk.le, fun e => by have := hb c e.symm; omega⟩

theorem okX.same {H H' : Heap} {b : Option Nat} (hk : Kept H H' none) {x : List Value} (h : okX H b x) : okX H' b x := by
  have hr := h.keep (hk.weak _)
  obtain ⟨op, n, s, node, rfl, h1, h2⟩ := h
  refine ⟨op, n, s, node, rfl, hr.trans h1, ?_⟩
  rcases h2 with rfl | ⟨c, k, rfl, h3, h4⟩
  · exact .inl rfl
  · exact .inr ⟨c, k, rfl, Nat.lt_of_lt_of_le h3 hk.le, h4⟩

structure LInv (H0 : Heap) (n : Nat) (nodes : List NodeD) (H : Heap) (v : Value) : Prop where
  wf0 : H0.Wf
  wf : H.Wf
  ext : Ext H0 H
  le : H0.next ≤ H.next
  tab : ∃ xs : List (List Value), xs.length = n ∧ (∀ x ∈ xs, x.length = 3 ∧ okX H (blockOf v) x) ∧ xs.mapM (rdNode H) = some nodes ∧
    ((n = 0 ∧ v = .slice none 0 0) ∨ ∃ b, v = .slice (some ⟨b, 0, none⟩) n BIG ∧ H.get b = some (.cells true 3 xs.flatten) ∧ H0.next ≤ b)

theorem mapM_congr' {α β : Type} {f g : α → Option β} : ∀ {l : List α}, (∀ x ∈ l, f x = g x) → l.mapM f = l.mapM g
  | [], _ => rfl
  | x :: l, h => by rw [List.mapM_cons, List.mapM_cons, h x (by simp), mapM_congr' fun y hy => h y (by simp [hy])]

/-- More nodes behind. -/
theorem LInv.more {H0 H H1 : Heap} {n m : Nat} {nodes : List NodeD} {v : Value} (hI : LInv H0 n nodes H v) (hk : Kept H H1 none) {bx : Nat} {ys : List (List Value)} (hy : ys.length = m) (hys : ∀ y ∈ ys, y.length = 3 ∧ okX H1 (blockOf v) y) (ho : ys.flatten.all oneC = true)
    (hbx : H1.get bx = some (.cells true 3 ys.flatten)) {more : List NodeD} (hm : ys.mapM (rdNode H1) = some more) (hm0 : 0 < m) (hn : n + m ≤ 1073741824) :
    ∃ H', builtinA Try.prog .append #[22, 22] [v, .slice (some ⟨bx, 0, none⟩) m m] H1 = some (.val (.slice (some ⟨H1.next, 0, none⟩) (n + m) BIG), H') ∧ LInv H0 (n + m) (nodes ++ more) H' (.slice (some ⟨H1.next, 0, none⟩) (n + m) BIG) := by
  obtain ⟨xs, hxl, hxs, hrd, htab⟩ := hI.tab
  have hfl : xs.flatten.length = n * 3 := by rw [flatten_length xs (es := 3) fun x hx => (hxs x hx).1, hxl]
  have hfy : ys.flatten.length = m * 3 := by rw [flatten_length ys (es := 3) fun x hx => (hys x hx).1, hy]
  have hv : (n = 0 ∧ v = .slice none 0 0 ∧ xs.flatten = []) ∨ ∃ b, v = .slice (some ⟨b, 0, none⟩) n BIG ∧ H1.get b = some (.cells true 3 xs.flatten) := by
    rcases htab with ⟨h1, h2⟩ | ⟨b, h1, h2, h3⟩
    · refine .inl ⟨h1, h2, ?_⟩
      rw [List.eq_nil_of_length_eq_zero (hxl.trans h1)]; rfl
    · exact .inr ⟨b, h1, by rw [hk.get b (hI.wf.lt h2) (by simp)]; exact h2⟩
  obtain ⟨H', e1, e2, e3, e4⟩ := app22 hk.wf hv hfl hbx hfy hm0 hn ho
  refine ⟨H', e1, hI.wf0, e3.wf, ?_, ?_, xs ++ ys, by simp [hxl, hy], ?_, ?_, .inr ⟨H1.next, rfl, by simpa using e2, Nat.le_trans hI.le hk.le⟩⟩
  · intro b ob hb
    have hb1 : b < H.next := hI.wf.lt (hI.ext b ob hb)
    rw [e3.get b (Nat.lt_of_lt_of_le hb1 hk.le), hk.get b hb1 (by simp)]
    · exact hI.ext b ob hb
    · intro e
      rcases htab with ⟨_, h2⟩ | ⟨b', h1, h2, h3⟩
      · rw [h2] at e; cases e
      · rw [h1] at e
        cases e
        have h := hI.wf0.lt hb
        change b' < _ at h
        omega
  · have := hI.le; have := hk.le; omega
  · intro x hx
    have hnew : ∀ c, blockOf (.slice (some ⟨H1.next, 0, none⟩) (n + m) BIG) = some c → H1.next ≤ c := fun c e => by cases e; exact Nat.le_refl _
    rcases List.mem_append.1 hx with hx | hx
    · exact ⟨(hxs x hx).1, ((hxs x hx).2.same hk).move e3 hnew⟩
    · exact ⟨(hys x hx).1, (hys x hx).2.move e3 hnew⟩
  · rw [List.mapM_append]
    have h1 : xs.mapM (rdNode H') = some nodes := by
      rw [← hrd]
      refine mapM_congr' fun x hx => ?_
      exact (((hxs x hx).2.same hk).keep e3).trans ((hxs x hx).2.keep (hk.weak _))
    have h2 : ys.mapM (rdNode H') = some more := by
      rw [← hm]
      exact mapM_congr' fun x hx => (hys x hx).2.keep e3
    rw [h1, h2]; rfl

def pW : List Nat := [1, 1, 1, 0, 1, 0, 0]

theorem b_round {env : Env} {H0 H : Heap} {lets i lf : Nat} {nodes : List NodeD} {v : Value} (hI : LInv H0 (2 * i) nodes H v) (hi : i < lets) (hl : lets ≤ 110) (e0 : env.val 0 = .int .i64 lets) (e5 : env.val 5 = v) (e6 : env.val 6 = .int .i64 i) :
    ∃ env' H' v', evCode Try.prog callB lf 114 none (cAt Try.f5 pW) env [] H = some (.normal, env', [], H') ∧ env'.val 0 = env.val 0 ∧ env'.val 1 = env.val 1 ∧ env'.val 5 = v' ∧ env'.val 6 = .int .i64 ((i + 1 : Nat) : Int) ∧
      LInv H0 (2 * (i + 1)) (nodes ++ [⟨4, 0, [2 * (i : Int) + 1, 2 * (i : Int) + 2]⟩, ⟨2, 0, []⟩]) H' v' := by
  have w0 : IntKind.i64.wrap (2 * (i : Int)) = 2 * (i : Int) := wrapI (by omega) (by omega)
  have w1 : IntKind.i64.wrap (2 * (i : Int) + 1) = 2 * (i : Int) + 1 := wrapI (by omega) (by omega)
  have w2 : IntKind.i64.wrap (2 * (i : Int) + 2) = 2 * (i : Int) + 2 := wrapI (by omega) (by omega)
  have w3 : IntKind.i64.wrap ((i : Int) + 1) = (i : Int) + 1 := wrapI (by omega) (by omega)
  have c1 : (i : Int) < (lets : Int) := by omega
  have k1 := (Kept.refl hI.wf none).push (.cells true 1 [.int .i64 (2 * (i : Int) + 1), .int .i64 (2 * (i : Int) + 2)])
  obtain ⟨H2, r2, k2⟩ := node_run (op := 4) (n := 0) (s := .slice (some ⟨H.next, 0, none⟩) 2 2) rfl k1.wf
  have k12 := k1.trans k2
  obtain ⟨H3, r3, k3⟩ := node_run (op := 2) (n := 0) (s := .slice none 0 0) rfl k12.wf
  have k13 := k12.trans k3
  have k14 := k13.push (.cells true 3 [.int .i64 4, .int .i64 0, .slice (some ⟨H.next, 0, none⟩) 2 2, .int .i64 2, .int .i64 0, .slice none 0 0])
  have hs1 : (H3.push (.cells true 3 [.int .i64 4, .int .i64 0, .slice (some ⟨H.next, 0, none⟩) 2 2, .int .i64 2, .int .i64 0, .slice none 0 0])).get H.next = some (.cells true 1 [.int .i64 (2 * (i : Int) + 1), .int .i64 (2 * (i : Int) + 2)]) := by
    have l1 : H.next < H2.next := Nat.lt_of_lt_of_le (by simp) k2.le
    rw [get_push_ne (by have := k3.le; omega), k3.get _ l1 (by simp), k2.get _ (by simp) (by simp)]
    exact get_push_self _ _
  have hrd : rdInts (H3.push (.cells true 3 [.int .i64 4, .int .i64 0, .slice (some ⟨H.next, 0, none⟩) 2 2, .int .i64 2, .int .i64 0, .slice none 0 0])) .i64 (.slice (some ⟨H.next, 0, none⟩) 2 2) = some [2 * (i : Int) + 1, 2 * (i : Int) + 2] := by
    simp [rdInts, rdS, hs1, capA, BIG, chunks]
  have hsm : small (.slice (some ⟨H.next, 0, none⟩) 2 2) = true := by rfl
  have hn1 : rdNode (H3.push (.cells true 3 [.int .i64 4, .int .i64 0, .slice (some ⟨H.next, 0, none⟩) 2 2, .int .i64 2, .int .i64 0, .slice none 0 0])) [.int .i64 4, .int .i64 0, .slice (some ⟨H.next, 0, none⟩) 2 2] = some ⟨4, 0, [2 * (i : Int) + 1, 2 * (i : Int) + 2]⟩ := by
    simp only [rdNode, hsm, hrd]
  have hn2 : ∀ H : Heap, rdNode H [.int .i64 2, .int .i64 0, .slice none 0 0] = some ⟨2, 0, []⟩ := fun _ => by rfl
  have hbv : some H.next ≠ blockOf v := by
    obtain ⟨xs, _, _, _, htab⟩ := hI.tab
    rcases htab with ⟨_, h2⟩ | ⟨b, h1, h2, h3⟩
    · rw [h2]; simp [blockOf]
    · rw [h1]; simp only [blockOf]; intro e; cases e; have := hI.wf.lt h2; omega
  obtain ⟨H', e1, hI'⟩ := hI.more (m := 2) k14 (bx := H3.next) (ys := [[.int .i64 4, .int .i64 0, .slice (some ⟨H.next, 0, none⟩) 2 2], [.int .i64 2, .int .i64 0, .slice none 0 0]]) rfl (by
      intro y hy
      simp only [List.mem_cons, List.not_mem_nil, or_false] at hy
      rcases hy with rfl | rfl
      · exact ⟨rfl, 4, 0, _, ⟨4, 0, [2 * (i : Int) + 1, 2 * (i : Int) + 2]⟩, rfl, hn1, .inr ⟨H.next, 2, rfl, by have := k13.le; have := k2.le; have := k3.le; simp at *; omega, hbv⟩⟩
      · exact ⟨rfl, 2, 0, _, ⟨2, 0, []⟩, rfl, hn2 _, .inl rfl⟩) (by rfl) (get_push_self _ _) (more := [⟨4, 0, [2 * (i : Int) + 1, 2 * (i : Int) + 2]⟩, ⟨2, 0, []⟩]) (by rw [List.mapM_cons, hn1, List.mapM_cons, hn2]; rfl) (by omega) (by omega)
  simp only [Heap.next_push] at e1 hI'
  generalize hr : evCode Try.prog callB lf 114 none (cAt Try.f5 pW) env [] H = out
  simp [pW, Try.f5, e0, e5, e6, c1, w0, w1, w2, w3, build2, callA, r2, r3, build22, e1] at hr
  subst hr
  refine ⟨_, _, _, rfl, by simp, by simp, by simp; rfl, by simp, ?_⟩
  rw [show 2 * (i + 1) = 2 * i + 2 by omega]
  exact hI'
end Go.Proofs.Ytpopkajkekceiaa

namespace Go.Proofs.Ytpopkajkekceiaa
open Go Go.Abs
set_option maxRecDepth 100000
set_option linter.unusedSimpArgs false
set_option linter.unusedVariables false

theorem b_exit {env : Env} {H : Heap} {lets i lf : Nat} (hi : lets ≤ i) (e0 : env.val 0 = .int .i64 lets) (e6 : env.val 6 = .int .i64 i) :
    ∃ env', evCode Try.prog callB lf 114 none (cAt Try.f5 pW) env [] H = some (.exit 0, env', [], H) ∧ env'.val 0 = env.val 0 ∧ env'.val 1 = env.val 1 ∧ env'.val 5 = env.val 5 := by
  have c1 : ¬ (i : Int) < (lets : Int) := by omega
  generalize hr : evCode Try.prog callB lf 114 none (cAt Try.f5 pW) env [] H = out
  simp [pW, Try.f5, e0, e6, c1] at hr
  subst hr
  exact ⟨_, rfl, by simp [e0]⟩

theorem b_loop {H0 : Heap} {lets lf : Nat} (hl : lets ≤ 110) : ∀ (d i m : Nat) (env : Env) (H : Heap) (v : Value), lets = i + d → d < m → LInv H0 (2 * i) (midN 0 i) H v → env.val 0 = .int .i64 lets → env.val 5 = v → env.val 6 = .int .i64 i →
    ∃ env' H' v', evLoop Try.prog callB lf 114 none (cAt Try.f5 pW) m env [] H = some (.exit 0, env', [], H') ∧ env'.val 0 = env.val 0 ∧ env'.val 1 = env.val 1 ∧ env'.val 5 = v' ∧ LInv H0 (2 * lets) (midN 0 lets) H' v'
  | d, i, 0, env, H, v, _, hm, _, _, _, _ => by omega
  | 0, i, m + 1, env, H, v, hd, hm, hI, e0, e5, e6 => by
    obtain ⟨env', he, k0, k1, k5⟩ := b_exit (lf := lf) (H := H) (by omega) e0 e6
    simp only [evLoop_succ, he]
    have : i = lets := by omega
    subst this
    exact ⟨_, _, _, rfl, k0, k1, k5.trans e5, hI⟩
  | d + 1, i, m + 1, env, H, v, hd, hm, hI, e0, e5, e6 => by
    obtain ⟨env', H', v', he, k0, k1, k5, k6, hI'⟩ := b_round (lf := lf) hI (by omega) hl e0 e5 e6
    simp only [evLoop_succ, he]
    have hmid : midN 0 i ++ [⟨4, 0, [2 * (i : Int) + 1, 2 * (i : Int) + 2]⟩, ⟨2, 0, []⟩] = midN 0 (i + 1) := by
      rw [midN_snoc]; simp
    rw [hmid] at hI'
    obtain ⟨e2, H2, v2, r2, l0, l1, l5, hI2⟩ := b_loop hl d (i + 1) m env' H' v' (by omega) (by omega) hI' (k0.trans e0) k5 k6
    exact ⟨e2, H2, v2, r2, l0.trans k0, l1.trans k1, l5, hI2⟩

theorem b_R8 {env : Env} {H0 H : Heap} {lets lf : Nat} {v : Value} (hl : lets ≤ 110) (hI : LInv H0 (2 * lets) (midN 0 lets) H v) (e5 : env.val 5 = v) :
    ∃ env' H' v', evCode Try.prog callB lf 114 none (cAt Try.f5 [1, 1, 1, 1, 0]) env [] H = some (.normal, env', [], H') ∧ env'.val 0 = env.val 0 ∧ env'.val 1 = env.val 1 ∧ env'.val 5 = v' ∧ LInv H0 (2 * lets + 1) (boundsN 0 lets) H' v' := by
  obtain ⟨H3, r3, k3⟩ := node_run (op := 2) (n := 0) (s := .slice none 0 0) rfl hI.wf
  have k14 := k3.push (.cells true 3 [.int .i64 2, .int .i64 0, .slice none 0 0])
  have hn2 : ∀ H : Heap, rdNode H [.int .i64 2, .int .i64 0, .slice none 0 0] = some ⟨2, 0, []⟩ := fun _ => by rfl
  obtain ⟨H', e1, hI'⟩ := hI.more (m := 1) k14 (bx := H3.next) (ys := [[.int .i64 2, .int .i64 0, .slice none 0 0]]) rfl (by
      intro y hy
      simp only [List.mem_cons, List.not_mem_nil, or_false] at hy
      subst hy
      exact ⟨rfl, 2, 0, _, ⟨2, 0, []⟩, rfl, hn2 _, .inl rfl⟩) (by rfl) (get_push_self _ _) (more := [⟨2, 0, []⟩]) (by rw [List.mapM_cons, hn2]; rfl) (by omega) (by omega)
  simp only [Heap.next_push] at e1 hI'
  rw [← boundsN_mid] at hI'
  generalize hr : evCode Try.prog callB lf 114 none (cAt Try.f5 [1, 1, 1, 1, 0]) env [] H = out
  simp [Try.f5, e5, callA, r3, build21, e1] at hr
  subst hr
  exact ⟨_, _, _, rfl, by simp, by simp, by simp, hI'⟩

theorem LInv.fit {H0 H : Heap} {n : Nat} {nodes : List NodeD} {v : Value} {p : Int} (hI : LInv H0 n nodes H v) (hf : ∀ x ∈ nodes, x.l.length < 1099511627776) : rdFit H (.agg #[.int .i64 p, v]) = some ⟨p, nodes⟩ := by
  obtain ⟨xs, hxl, hxs, hrd, htab⟩ := hI.tab
  have hS : rdS H 3 v = some xs := by
    rcases htab with ⟨h1, h2⟩ | ⟨b, h1, h2, h3⟩
    · rw [h2, List.eq_nil_of_length_eq_zero (hxl.trans h1)]; rfl
    · have hfl : xs.flatten.length = n * 3 := by rw [flatten_length xs (es := 3) fun x hx => (hxs x hx).1, hxl]
      rw [h1]
      have hcap : capA n BIG = n := by unfold capA; exact if_neg (Nat.lt_irrefl _)
      simp only [rdS, h2]
      rw [if_pos (show n ≤ capA n BIG ∧ 0 + n * 3 ≤ xs.flatten.length from ⟨by rw [hcap]; exact Nat.le_refl _, by omega⟩), List.drop_zero, ← hxl, Go.Abs.chunks_flatten xs fun x hx => (hxs x hx).1]
  refine rdFit_of ?_ hf
  simp only [rdFun, smallN, hS]
  rw [hrd]; rfl
theorem boundsN_short : ∀ (d i : Nat), ∀ x ∈ boundsN i d, x.l.length < 1099511627776
  | 0, i, x, hx => by simp only [boundsN, List.mem_cons, List.not_mem_nil, or_false] at hx; subst hx; simp
  | d + 1, i, x, hx => by
    simp only [boundsN, List.mem_cons] at hx
    rcases hx with rfl | rfl | hx
    · simp
    · simp
    · exact boundsN_short d (i + 1) x hx

theorem b_R9 {env : Env} {H0 H : Heap} {n lf : Nat} {nodes : List NodeD} {v : Value} {p : Int} (hI : LInv H0 n nodes H v) (hn : 0 < n) (hf : ∀ x ∈ nodes, x.l.length < 1099511627776) (e1 : env.val 1 = .int .i64 p) (e5 : env.val 5 = v) :
    ∃ env' H' b, evCode Try.prog callB lf 114 none (cAt Try.f5 [1, 1, 1, 1, 1, 0]) env [] H = some (.normal, env', [], H') ∧ env'.val 0 = env.val 0 ∧ env'.val 1 = env.val 1 ∧ env'.val 7 = .pointer (some ⟨b, 0, none⟩) ∧
      H'.get b = some (.cells true 2 [.int .i64 p, v]) ∧ rdFit H' (.agg #[.int .i64 p, v]) = some ⟨p, nodes⟩ ∧ Ext H0 H' := by
  obtain ⟨xs, hxl, hxs, hrd, htab⟩ := hI.tab
  obtain ⟨b, hv, hb, hb0⟩ : ∃ b, v = .slice (some ⟨b, 0, none⟩) n BIG ∧ H.get b = some (.cells true 3 xs.flatten) ∧ H0.next ≤ b := by
    rcases htab with ⟨h1, h2⟩ | h
    · omega
    · exact h
  obtain ⟨H2, r2, k2⟩ := of_run (p := p) hv hI.wf
  have hone : oneC v = true := by rw [hv]; rfl
  have st : storeA Try.prog 24 (H2.push (.cells true 2 [.int .i64 0, .slice none 0 0])) H2.next 0 (.agg #[.int .i64 p, v]) = some ((H2.push (.cells true 2 [.int .i64 0, .slice none 0 0])).set H2.next (.cells true 2 [.int .i64 p, v])) := by
    simp [storeA, get_push_self, hone, putL]
  have k3 := (k2.push (.cells true 2 [.int .i64 0, .slice none 0 0])).set (c := H2.next) k2.le (by simp) (.cells true 2 [.int .i64 p, v])
  have hx : Ext H ((H2.push (.cells true 2 [.int .i64 0, .slice none 0 0])).set H2.next (.cells true 2 [.int .i64 p, v])) := fun c ob hc => by
    rw [k3.get c (hI.wf.lt hc) (by simp)]; exact hc
  generalize hr : evCode Try.prog callB lf 114 none (cAt Try.f5 [1, 1, 1, 1, 1, 0]) env [] H = out
  simp [Try.f5, e1, e5, callA, r2, st] at hr
  subst hr
  exact ⟨_, _, H2.next, rfl, by simp, by simp [e1], by simp, get_set_self _ _ _, rdFit_ext hx (hI.fit hf), hI.ext.trans hx⟩

theorem b_rest {env : Env} {H : Heap} {lf lets b : Nat} {p : Int} {v : Value} (hl : lets ≤ 110) (e0 : env.val 0 = .int .i64 lets) (e1 : env.val 1 = .int .i64 p) (e7 : env.val 7 = .pointer (some ⟨b, 0, none⟩)) (hb : H.get b = some (.cells true 2 [.int .i64 p, v]))
    (hf : rdFit H (.agg #[.int .i64 p, v]) = some ⟨p, boundsN 0 lets⟩) :
    ∃ env', evCode Try.prog callB lf 114 none (cAt Try.f5 [1, 1, 1, 1, 1, 1]) env [] H = some (.ret, env', [], H) ∧ env'.val 4 = .bool true := by
  have ld : loadA Try.prog 24 H b 0 = some (.agg #[.int .i64 p, v]) := by simp [loadA, hb]
  have hw := callB_where hf
  rw [bounds_where] at hw
  generalize hr : evCode Try.prog callB lf 114 none (cAt Try.f5 [1, 1, 1, 1, 1, 1]) env [] H = out
  by_cases c1 : p < 0
  · rw [if_pos (by omega)] at hw
    simp [Try.f5, e0, e1, e7, ld, callA, hw, callB_num, callB_works, c1] at hr
    subst hr
    exact ⟨_, rfl, by simp⟩
  · by_cases c2 : 9 < p
    · rw [if_pos (by omega)] at hw
      simp [Try.f5, e0, e1, e7, ld, callA, hw, callB_num, callB_works, c1, c2] at hr
      subst hr
      exact ⟨_, rfl, by simp⟩
    · by_cases c3 : 99 < lets
      · have c3' : (99 : Int) < (lets : Int) := by omega
        rw [if_pos (by omega)] at hw
        simp [Try.f5, e0, e1, e7, ld, callA, hw, callB_num, callB_works, c1, c2, c3, c3'] at hr
        subst hr
        exact ⟨_, rfl, by simp⟩
      · have c3' : ¬ (99 : Int) < (lets : Int) := by omega
        rw [if_neg (by omega)] at hw
        have wr : IntKind.i64.wrap ((lets : Int) + p) = (lets : Int) + p := wrapI (by omega) (by omega)
        by_cases c4 : 64 < (lets : Int) + p
        · rw [if_pos (by omega)] at hw
          have w2 : IntKind.i64.wrap (65 - p) = 65 - p := wrapI (by omega) (by omega)
          have w3 : IntKind.i64.wrap (2 * (65 - p)) = 2 * (65 - p) := wrapI (by omega) (by omega)
          simp [Try.f5, e0, e1, e7, ld, callA, hw, callB_num, callB_works, c1, c2, c3, c3', wr, c4, w2, w3] at hr
          subst hr
          exact ⟨_, rfl, by simp⟩
        · rw [if_neg (by omega)] at hw
          obtain ⟨d1, d2⟩ := bounds_placed (lets := lets) (params := p) (by omega) (by omega)
          have hd := callB_depth (n := 2 * (lets : Int)) hf
          rw [d1, d2] at hd
          have w2 : IntKind.i64.wrap (2 * (lets : Int)) = 2 * (lets : Int) := wrapI (by omega) (by omega)
          have hc : (p + (lets : Int) == (lets : Int) + p) = true := by simp; omega
          simp [Try.f5, e0, e1, e7, ld, callA, hw, hd, callB_num, callB_works, c1, c2, c3, c3', wr, c4, w2, -beq_iff_eq, hc] at hr
          subst hr
          exact ⟨_, rfl, by simp⟩

theorem bounds_run {H : Heap} {lets params : Int} (hw : H.Wf) : ∃ H', evFn Try.prog callB 120 5 [.int .i64 lets, .int .i64 params] H = some (.ret (.bool true), H') := by
  have hend : ∀ {env : Env} {H' : Heap}, env.val 4 = .bool true → fnEnd Try.prog callB 120 Try.f5 (some (.ret, env, [], H')) = some (.ret (.bool true), H') := by
    intro env H' h
    simp [fnEnd, Try.f5, h]
  have hst : ∀ out, evCode Try.prog callB 120 114 none (cAt Try.f5 []) (envOf 0 [.int .i64 lets, .int .i64 params] .nil) [] H = out → evFn Try.prog callB 120 5 [.int .i64 lets, .int .i64 params] H = fnEnd Try.prog callB 120 Try.f5 out := by
    intro out h
    rw [evFn_at Try.func5 body5 (by simp), Try.ntmps5, h]
  by_cases hin : lets < 0 ∨ 110 < lets
  · have r : ∃ e, evCode Try.prog callB 120 114 none (cAt Try.f5 []) (envOf 0 [.int .i64 lets, .int .i64 params] .nil) [] H = some (.ret, e, [], H) ∧ e.val 4 = .bool true := by
      have r0 : ∃ e, evCode Try.prog callB 120 114 none (cAt Try.f5 [0]) (envOf 0 [.int .i64 lets, .int .i64 params] .nil) [] H = some (.normal, e, [], H) ∧ e.val 0 = .int .i64 lets := by
        generalize hr : evCode Try.prog callB 120 114 none (cAt Try.f5 [0]) (envOf 0 [.int .i64 lets, .int .i64 params] .nil) [] H = out
        simp [Try.f5] at hr
        subst hr
        exact ⟨_, rfl, by simp⟩
      obtain ⟨e, r0, v0⟩ := r0
      have r1 : ∃ e', evCode Try.prog callB 120 114 none (cAt Try.f5 [1, 0]) e [] H = some (.ret, e', [], H) ∧ e'.val 4 = .bool true := by
        generalize hr : evCode Try.prog callB 120 114 none (cAt Try.f5 [1, 0]) e [] H = out
        by_cases c1 : lets < 0
        · simp [Try.f5, v0, c1, callA, callB_works] at hr
          subst hr
          exact ⟨_, rfl, by simp⟩
        · have c2 : 110 < lets := by omega
          simp [Try.f5, v0, c1, c2, callA, callB_works] at hr
          subst hr
          exact ⟨_, rfl, by simp⟩
      obtain ⟨e', r1, v4⟩ := r1
      exact ⟨e', by rw [ev_then (c := cAt Try.f5 []) (b := cAt Try.f5 [1]) rfl r0, ev_stop (c := cAt Try.f5 [1]) (a := cAt Try.f5 [1, 0]) (b := cAt Try.f5 [1, 1]) rfl r1 (by simp)], v4⟩
    obtain ⟨e, r, v4⟩ := r
    exact ⟨H, (hst _ r).trans (hend v4)⟩
  · obtain ⟨n, hn⟩ : ∃ n : Nat, lets = n := ⟨lets.toNat, by omega⟩
    subst hn
    have r0 : ∃ e, evCode Try.prog callB 120 114 none (cAt Try.f5 [0]) (envOf 0 [.int .i64 n, .int .i64 params] .nil) [] H = some (.normal, e, [], H) ∧ e.val 0 = .int .i64 n ∧ e.val 1 = .int .i64 params := by
      generalize hr : evCode Try.prog callB 120 114 none (cAt Try.f5 [0]) (envOf 0 [.int .i64 n, .int .i64 params] .nil) [] H = out
      simp [Try.f5] at hr
      subst hr
      exact ⟨_, rfl, by simp⟩
    obtain ⟨e, r0, v0, v1⟩ := r0
    have r1 : ∃ e', evCode Try.prog callB 120 114 none (cAt Try.f5 [1, 0]) e [] H = some (.normal, e', [], H) ∧ e'.val 0 = e.val 0 ∧ e'.val 1 = e.val 1 := by
      have c1 : ¬ (n : Int) < 0 := by omega
      have c2 : ¬ (110 : Int) < (n : Int) := by omega
      generalize hr : evCode Try.prog callB 120 114 none (cAt Try.f5 [1, 0]) e [] H = out
      simp [Try.f5, v0, c1, c2] at hr
      subst hr
      exact ⟨_, rfl, by simp [v0]⟩
    obtain ⟨e', r1, w0, w1⟩ := r1
    have r2 : ∃ e2, evCode Try.prog callB 120 114 none (cAt Try.f5 [1, 1, 0]) e' [] H = some (.normal, e2, [], H) ∧ e2.val 0 = e'.val 0 ∧ e2.val 1 = e'.val 1 ∧ e2.val 5 = .slice none 0 0 := by
      generalize hr : evCode Try.prog callB 120 114 none (cAt Try.f5 [1, 1, 0]) e' [] H = out
      simp [Try.f5] at hr
      subst hr
      exact ⟨_, rfl, by simp⟩
    obtain ⟨e2, r2, x0, x1, x5⟩ := r2
    have r3 : ∃ e3, evCode Try.prog callB 120 114 none (cAt Try.f5 [1, 1, 1, 0, 0]) e2 [] H = some (.normal, e3, [], H) ∧ e3.val 0 = e2.val 0 ∧ e3.val 1 = e2.val 1 ∧ e3.val 5 = e2.val 5 ∧ e3.val 6 = .int .i64 ((0 : Nat) : Int) := by
      generalize hr : evCode Try.prog callB 120 114 none (cAt Try.f5 [1, 1, 1, 0, 0]) e2 [] H = out
      simp [Try.f5] at hr
      subst hr
      exact ⟨_, rfl, by simp⟩
    obtain ⟨e3, r3, y0, y1, y5, y6⟩ := r3
    have hI0 : LInv H (2 * 0) (midN 0 0) H (.slice none 0 0) := ⟨hw, hw, Ext.refl H, Nat.le_refl _, [], rfl, (fun x hx => by cases hx), rfl, .inl ⟨rfl, rfl⟩⟩
    obtain ⟨e4, H4, v4, r4, z0, z1, z5, hI4⟩ := b_loop (lf := 120) (lets := n) (by omega) n 0 120 e3 H _ (by omega) (by omega) hI0 (y0.trans (x0.trans (w0.trans v0))) (y5.trans x5) y6
    have hblk : evCode Try.prog callB 120 114 none (cAt Try.f5 [1, 1, 1, 0, 1]) e3 [] H = some (.normal, e4, [], H4) := by
      rw [show cAt Try.f5 [1, 1, 1, 0, 1] = .block 0 (.loop (cAt Try.f5 pW)) from rfl, evCode_block, evCode_loop, r4]
      simp
    obtain ⟨e5, H5, v5, r5, a0, a1, a5, hI5⟩ := b_R8 (lf := 120) (env := e4) (by omega) hI4 z5
    obtain ⟨e6, H6, b6, r6, b0, b1, b7, hb6, hf6, _⟩ := b_R9 (lf := 120) (env := e5) (p := params) hI5 (by omega) (boundsN_short n 0) (a1.trans (z1.trans (y1.trans (x1.trans (w1.trans v1))))) a5
    obtain ⟨e7, r7, c4⟩ := b_rest (lf := 120) (env := e6) (lets := n) (by omega) (b0.trans (a0.trans (z0.trans (y0.trans (x0.trans (w0.trans v0)))))) (b1.trans (a1.trans (z1.trans (y1.trans (x1.trans (w1.trans v1)))))) b7 hb6 hf6
    have hA : evCode Try.prog callB 120 114 none (cAt Try.f5 [1, 1, 1, 0]) e2 [] H = some (.normal, e4, [], H4) := by
      rw [ev_then (c := cAt Try.f5 [1, 1, 1, 0]) (b := cAt Try.f5 [1, 1, 1, 0, 1]) rfl r3, hblk]
    have hall : evCode Try.prog callB 120 114 none (cAt Try.f5 []) (envOf 0 [.int .i64 n, .int .i64 params] .nil) [] H = some (.ret, e7, [], H6) := by
      rw [ev_then (c := cAt Try.f5 []) (b := cAt Try.f5 [1]) rfl r0, ev_then (c := cAt Try.f5 [1]) (b := cAt Try.f5 [1, 1]) rfl r1, ev_then (c := cAt Try.f5 [1, 1]) (b := cAt Try.f5 [1, 1, 1]) rfl r2,
        ev_then (c := cAt Try.f5 [1, 1, 1]) (b := cAt Try.f5 [1, 1, 1, 1]) rfl hA, ev_then (c := cAt Try.f5 [1, 1, 1, 1]) (b := cAt Try.f5 [1, 1, 1, 1, 1]) rfl r5, ev_then (c := cAt Try.f5 [1, 1, 1, 1, 1]) (b := cAt Try.f5 [1, 1, 1, 1, 1, 1]) rfl r6, r7]
    exact ⟨H6, (hst _ hall).trans (hend c4)⟩
end Go.Proofs.Ytpopkajkekceiaa
