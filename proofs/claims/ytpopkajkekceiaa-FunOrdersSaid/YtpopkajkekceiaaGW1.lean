/-
  A part of a proof: texts laid behind one another (W1, W2, W3, W4, W5, W6, W7, W8, W9, W10).
-/
import Derived.Test.YtpopkajkekceiaaGF
namespace Go.Proofs.Ytpopkajkekceiaa
open Go Go.Abs
set_option maxRecDepth 100000
set_option linter.unusedSimpArgs false


theorem within_exit {call : CallF} {lf : Nat} {env : Env} {H : Heap} {l : List Int} (h : rdInts H .i64 (env.val 0) = some l) (hl : l.length < 3) :
    ∃ env', evCode Try.prog call lf 24 none (cAt Try.f48 [1, 0, 0, 0]) env [] H = some (.exit 0, env', [], H) := by
  have hb := len_of (H' := H) (P := Try.prog) (t := 38) (rdInts_rd h) Try.underlying38
  have hc : ¬ (3 : Int) ≤ (l.length : Int) := by omega
  generalize hr : evCode Try.prog call lf 24 none (cAt Try.f48 [1, 0, 0, 0]) env [] H = r'
  simp at hb
  simp [Try.f48, hb, hc] at hr
  exact ⟨_, hr.symm⟩

theorem within_step {call : CallF} {lf : Nat} {env : Env} {H : Heap} {a b c : Int} {r : List Int} (h : rdInts H .i64 (env.val 0) = some (a :: b :: c :: r)) (hs : small (env.val 0) = true) :
    ((a < b ∨ c < a) → ∃ env', evCode Try.prog call lf 24 none (cAt Try.f48 [1, 0, 0, 0]) env [] H = some (.ret, env', [], H) ∧ env'.val 2 = .bool false) ∧
     (¬ (a < b ∨ c < a) → ∃ env', evCode Try.prog call lf 24 none (cAt Try.f48 [1, 0, 0, 0]) env [] H = some (.normal, env', [], H) ∧ rdInts H .i64 (env'.val 0) = some r ∧ small (env'.val 0) = true) := by
  obtain ⟨i0, l0⟩ := rdInts_at (n := 0) (P := Try.prog) (t := 38) (e := 3) h rfl Try.underlying38 info3 rfl Try.underlying3 rfl
  obtain ⟨i1, l1⟩ := rdInts_at (n := 1) (P := Try.prog) (t := 38) (e := 3) h rfl Try.underlying38 info3 rfl Try.underlying3 rfl
  obtain ⟨i2, l2⟩ := rdInts_at (n := 2) (P := Try.prog) (t := 38) (e := 3) h rfl Try.underlying38 info3 rfl Try.underlying3 rfl
  obtain ⟨v', s1, s2, s3⟩ := rdS_from (P := Try.prog) (t := 38) (n := 3) (rdInts_rd h) elem38 rfl (by simp) (by omega) (small_lt hs)
  have hr' : rdInts H .i64 v' = some r := rdInts_of (by rw [s2]; simp)
  have hs' : small v' = true := small_of s3 s2
  have hb := len_of (H' := H) (P := Try.prog) (t := 38) (rdInts_rd h) Try.underlying38
  simp at i0 i1 i2 l0 l1 l2 s1 hb
  have hc : (3 : Int) ≤ (r.length : Int) + 1 + 1 + 1 := by omega
  generalize hr : evCode Try.prog call lf 24 none (cAt Try.f48 [1, 0, 0, 0]) env [] H = out
  simp [Try.f48, hb, hc, i0, i1, i2, l0, l1, l2, s1] at hr
  rw [evDraw_tab (tab := [])] at hr
  · by_cases h1 : a < b
    · simp [Try.f48, hb, hc, i0, i1, i2, l0, l1, l2, s1, h1] at hr
      subst hr
      simp [h1]
    · by_cases h2 : c < a
      · simp [Try.f48, hb, hc, i0, i1, i2, l0, l1, l2, s1, h1, h2] at hr
        subst hr
        simp [h1, h2]
      · simp [Try.f48, hb, hc, i0, i1, i2, l0, l1, l2, s1, h1, h2] at hr
        subst hr
        simp [h1, h2, hr', hs']
  · kernel_rfl
  · kernel_rfl

/-- Triples, each between its least and its greatest one. -/
def withinL : List Int → Bool
  | a :: b :: c :: r => if a < b ∨ c < a then false else withinL r
  | _ => true

theorem within_loop {call : CallF} {lf : Nat} {H : Heap} : ∀ (m : Nat) (l : List Int) (env : Env), l.length < m → rdInts H .i64 (env.val 0) = some l → small (env.val 0) = true →
    (withinL l = true → ∃ env', evLoop Try.prog call lf 24 none (cAt Try.f48 [1, 0, 0, 0]) m env [] H = some (.exit 0, env', [], H)) ∧
    (withinL l = false → ∃ env', evLoop Try.prog call lf 24 none (cAt Try.f48 [1, 0, 0, 0]) m env [] H = some (.ret, env', [], H) ∧ env'.val 2 = .bool false)
  | 0, l, env, hm, _, _ => by omega
  | m + 1, l, env, hm, h, hs => by
    by_cases hl : l.length < 3
    · obtain ⟨env', he⟩ := within_exit (call := call) (lf := lf) h hl
      have hw : withinL l = true := by
        match l, hl with
        | [], _ => rfl
        | [_], _ => rfl
        | [_, _], _ => rfl
        | _ :: _ :: _ :: _, hl => simp at hl; omega
      rw [hw]
      simp only [evLoop_succ, he]
      exact ⟨fun _ => ⟨_, rfl⟩, fun e => by cases e⟩
    · match l, hl with
      | [], hl => exact absurd (by simp) hl
      | [_], hl => exact absurd (by simp) hl
      | [_, _], hl => exact absurd (by simp) hl
      | a :: b :: c :: r, _ =>
        obtain ⟨h1, h2⟩ := within_step (call := call) (lf := lf) h hs
        simp only [withinL]
        by_cases hc : a < b ∨ c < a
        · obtain ⟨env', he, hv⟩ := h1 hc
          simp only [evLoop_succ, he, if_pos hc]
          exact ⟨fun e => (nomatch e), fun _ => ⟨_, rfl, hv⟩⟩
        · obtain ⟨env', he, hv, hs'⟩ := h2 hc
          simp only [evLoop_succ, he, if_neg hc]
          exact within_loop m r env' (by simp at hm; omega) hv hs'

/-- within. -/
noncomputable def withinC : Contract Try.prog := Contract.plain 48
  (fun args H => match args with
    | [v] => match small v, rdInts H .i64 v with
      | true, some l => some (.ret (.bool (withinL l)))
      | _, _ => none
    | _ => none) (by
    intro args H res hw hr
    split at hr
    · rename_i v
      split at hr
      · rename_i l hs hl
        cases hr
        refine ⟨rfl, fun _ _ => none, H, (fun _ _ _ _ h => by cases h), l.length + 1, ?_, Ext.refl H⟩
        generalize hr : evFn Try.prog (fun _ _ => none) (l.length + 1) 48 [v] H = out
        simp [Try.f48] at hr
        generalize hL : evLoop _ _ _ _ _ _ _ _ _ _ = L at hr
        obtain ⟨g1, g2⟩ := within_loop (call := fun _ _ => none) (lf := l.length + 1) (H := H) (l.length + 1) l ((Tr.nil.set 0 v).set 2 (.bool false)) (Nat.lt_succ_self _) (by simpa using hl) (by simpa using hs)
        cases hw : withinL l with
        | true =>
          obtain ⟨env', he⟩ := g1 hw
          have e := hL.symm.trans he
          subst e
          simpa using hr.symm
        | false =>
          obtain ⟨env', he, hv⟩ := g2 hw
          have e := hL.symm.trans he
          subst e
          simpa [hv] using hr.symm
      · cases hr
    · cases hr)
end Go.Proofs.Ytpopkajkekceiaa

namespace Go.Proofs.Ytpopkajkekceiaa
open Go Go.Abs
set_option maxRecDepth 100000
set_option linter.unusedSimpArgs false

theorem noCall_ok : CallOk Try.prog (fun _ _ => none) := fun _ _ _ _ h => by cases h

/-- must. -/
noncomputable def mustC : Contract Try.prog := Contract.plain 47
  (fun args _ => match args with
    | [.bool b, .int .i64 n] => some (bif b then .ret (.tuple #[]) else .pan (.iface 89 (.int .i64 n)))
    | _ => none) (by
    intro args H res hw hr
    split at hr
    · rename_i b n
      cases hr
      cases b with
      | true => exact ⟨rfl, _, H, noCall_ok, 0, by simp [Try.f47], Ext.refl H⟩
      | false => exact ⟨rfl, _, H, noCall_ok, 0, by simp [Try.f47], Ext.refl H⟩
    · cases hr)

/-- May a number be that? By the function's own number. -/
def numberOk : Nat → Int → Int → Bool
  | 55, n, _ => n == 0
  | 56, n, _ => decide (0 ≤ n) && decide (n < 64)
  | 57, _, _ => true
  | 58, n, vars => decide (0 ≤ n) && decide (n < vars)
  | _, _, _ => false

noncomputable def noneC : Contract Try.prog := Contract.plain 55
  (fun args _ => match args with
    | [.int .i64 n, .int .i64 m] => some (.ret (.bool (numberOk 55 n m)))
    | _ => none) (by
    intro args H res hw hr
    split at hr
    · cases hr
      exact ⟨rfl, _, H, noCall_ok, 0, by simp [Try.f55, numberOk], Ext.refl H⟩
    · cases hr)

noncomputable def functionC : Contract Try.prog := Contract.plain 56
  (fun args _ => match args with
    | [.int .i64 n, .int .i64 m] => some (.ret (.bool (numberOk 56 n m)))
    | _ => none) (by
    intro args H res hw hr
    split at hr
    · rename_i n m
      cases hr
      refine ⟨rfl, _, H, noCall_ok, 0, ?_, Ext.refl H⟩
      by_cases h : 0 ≤ n <;> simp [Try.f56, numberOk, h]
    · cases hr)

noncomputable def everyC : Contract Try.prog := Contract.plain 57
  (fun args _ => match args with
    | [.int .i64 n, .int .i64 m] => some (.ret (.bool (numberOk 57 n m)))
    | _ => none) (by
    intro args H res hw hr
    split at hr
    · cases hr
      exact ⟨rfl, _, H, noCall_ok, 0, by simp [Try.f57, numberOk], Ext.refl H⟩
    · cases hr)

noncomputable def variableC : Contract Try.prog := Contract.plain 58
  (fun args _ => match args with
    | [.int .i64 n, .int .i64 m] => some (.ret (.bool (numberOk 58 n m)))
    | _ => none) (by
    intro args H res hw hr
    split at hr
    · rename_i n m
      cases hr
      refine ⟨rfl, _, H, noCall_ok, 0, ?_, Ext.refl H⟩
      by_cases h : 0 ≤ n <;> simp [Try.f58, numberOk, h]
    · cases hr)

/-- What stands in the table of shapes: the number's function, the least, the greatest. -/
def shapeOf : Nat → Nat × Int × Int
  | 0 => (55, 1, 0) | 1 => (57, 0, 0) | 2 => (55, 0, 0) | 3 => (58, 0, 0) | 4 => (55, 2, 2) | 5 => (55, 3, 3)
  | 6 => (55, 2, 2) | 7 => (55, 2, 2) | 8 => (55, 2, 2) | 9 => (55, 2, 2) | 10 => (55, 2, 2) | 11 => (55, 1, 1) | 12 => (55, 1, 1)
  | 13 => (56, 0, 8) | 14 => (56, 0, 8) | 15 => (55, 0, 0) | 16 => (55, 2, 2) | 17 => (55, 1, 1) | 18 => (55, 1, 1) | 19 => (55, 0, 0)
  | 20 => (55, 0, 16) | 21 => (56, 1, 9) | 22 => (56, 0, 8) | 23 => (56, 0, 8) | _ => (55, 1, 1)

def shapeCells : List Nat → List Value
  | [] => []
  | i :: is => .func (.func (shapeOf i).1) #[] #[] :: .int .i64 (shapeOf i).2.1 :: .int .i64 (shapeOf i).2.2 :: shapeCells is

/-- shapes. -/
noncomputable def shapesC : Contract Try.prog := Contract.closed 49 (.ret (.agg (shapeCells (List.range 25)).toArray)) 1 2 (by kernel_rfl) (by kernel_rfl)
end Go.Proofs.Ytpopkajkekceiaa

namespace Go.Proofs.Ytpopkajkekceiaa
open Go Go.Abs
set_option maxRecDepth 100000
set_option linter.unusedSimpArgs false
set_option linter.unusedVariables false

/-! ### Functions as data -/
structure NodeD where
  op : Int
  n : Int
  l : List Int
structure FunD where
  params : Int
  nodes : List NodeD

/-- (Nothing is asked of a function's own slices.) -/
def smallN (_ : Value) : Bool := true
noncomputable def rdNode (H : Heap) (cs : List Value) : Option NodeD := match cs with
  | [.int .i64 op, .int .i64 n, s] => match smallN s, rdInts H .i64 s with
    | true, some l => some ⟨op, n, l⟩
    | _, _ => none
  | _ => none
noncomputable def rdFun (H : Heap) (v : Value) : Option FunD := match v with
  | .agg cs => match cs.toList with
    | [.int .i64 p, s] => match smallN s, rdS H 3 s with
      | true, some xs => (xs.mapM (rdNode H)).map fun ns => ⟨p, ns⟩
      | _, _ => none
    | _ => none
  | _ => none

theorem rdInts_ext {H H' : Heap} (hx : Ext H H') {k : IntKind} {v : Value} {l : List Int} (h : rdInts H k v = some l) : rdInts H' k v = some l :=
  rdInts_of (rdS_ext hx (rdInts_rd h))
theorem rdNode_ext {H H' : Heap} (hx : Ext H H') {cs : List Value} {x : NodeD} (h : rdNode H cs = some x) : rdNode H' cs = some x := by
  unfold rdNode at h ⊢
  split at h
  · split at h
    · rename_i hs hl; simp only [hs, rdInts_ext hx hl]; exact h
    · cases h
  · cases h
theorem rdFun_ext {H H' : Heap} (hx : Ext H H') {v : Value} {f : FunD} (h : rdFun H v = some f) : rdFun H' v = some f := by
  unfold rdFun at h ⊢
  split at h
  · split at h
    · split at h
      · rename_i xs hs hr
        rw [hs, rdS_ext hx hr]
        simp only
        obtain ⟨ns, hn, hf⟩ := Option.map_eq_some_iff.1 h
        have : xs.mapM (rdNode H') = some ns := by
          clear h hr hf
          induction xs generalizing ns with
          | nil => exact hn
          | cons x xs ih =>
            rw [List.mapM_cons] at hn ⊢
            simp only [Option.bind_eq_bind, Option.bind_eq_some_iff, Option.pure_def, Option.some.injEq] at hn
            obtain ⟨a, ha, a2, has, rfl⟩ := hn
            rw [rdNode_ext hx ha, ih _ has]; rfl
        rw [this]; exact congrArg some hf
      · cases h
    · cases h
  · cases h

theorem mapM_get {α β : Type} {g : α → Option β} : ∀ {xs : List α} {ys : List β}, xs.mapM g = some ys → xs.length = ys.length ∧ ∀ (i : Nat) y, ys[i]? = some y → ∃ x, xs[i]? = some x ∧ g x = some y
  | [], ys, h => by simp at h; subst h; exact ⟨rfl, fun i y hy => by simp at hy⟩
  | x :: xs, ys, h => by
    rw [List.mapM_cons] at h
    simp only [Option.bind_eq_bind, Option.bind_eq_some_iff, Option.pure_def, Option.some.injEq] at h
    obtain ⟨a, ha, a2, has, rfl⟩ := h
    obtain ⟨h1, h2⟩ := mapM_get has
    refine ⟨by simp [h1], fun i y hy => ?_⟩
    cases i with
    | zero => simp at hy; subst hy; exact ⟨x, by simp, ha⟩
    | succ i => simp at hy; obtain ⟨z, hz, hg⟩ := h2 i y hy; exact ⟨z, by simpa using hz, hg⟩

theorem rdFun_inv {H : Heap} {v : Value} {f : FunD} (h : rdFun H v = some f) : ∃ s xs, v = .agg #[.int .i64 f.params, s] ∧ smallN s = true ∧ rdS H 3 s = some xs ∧ xs.length = f.nodes.length ∧
    ∀ (i : Nat) x, f.nodes[i]? = some x → ∃ s', xs[i]? = some [.int .i64 x.op, .int .i64 x.n, s'] ∧ smallN s' = true ∧ rdInts H .i64 s' = some x.l := by
  unfold rdFun at h
  split at h
  · rename_i cs
    split at h
    · rename_i p s hcs
      split at h
      · rename_i xs hs hr
        obtain ⟨ns, hn, rfl⟩ := Option.map_eq_some_iff.1 h
        obtain ⟨h1, h2⟩ := mapM_get hn
        refine ⟨s, xs, ?_, hs, hr, h1, ?_⟩
        · congr 1
          apply Array.toList_inj.1; rw [hcs]
        · intro i x hx
          obtain ⟨c, hc, hg⟩ := h2 i x hx
          unfold rdNode at hg
          split at hg
          · split at hg
            · rename_i s' l hs' hl
              cases hg
              exact ⟨_, hc, hs', hl⟩
            · cases hg
          · cases hg
      · cases h
    · cases h
  · cases h

/-! ### looked, plainly -/
structure Pl where
  above : Int
  vars : Int
  has : Bool

def flatP : List Pl → List Value
  | [] => []
  | p :: ps => .int .i64 p.above :: .int .i64 p.vars :: .bool p.has :: flatP ps

def lookKids (len i : Nat) (op vars : Int) : Nat → List Int → List Pl → Option (List Pl)
  | _, [], ps => some ps
  | k, c :: cs, ps => if (i : Int) + 1 ≤ c ∧ c ≤ (len : Int) - 1 then
      match ps[c.toNat]? with
      | some p => if p.has = true then none else lookKids len i op vars (k + 1) cs (ps.set c.toNat ⟨i, if op = 4 ∧ k = 1 then vars + 1 else vars, true⟩)
      | none => none
    else none

def lookFrom (len : Nat) : Nat → List NodeD → List Pl → Except Nat (List Pl)
  | _, [], ps => .ok ps
  | i, x :: xs, ps => match ps[i]? with
    | some p => if p.has = true ∧ 0 ≤ x.op ∧ x.op ≤ 24 then
        if numberOk (shapeOf x.op.toNat).1 x.n p.vars = true ∧ withinL [x.l.length, (shapeOf x.op.toNat).2.1, (shapeOf x.op.toNat).2.2, p.vars, 0, 64] = true then
          match lookKids len i x.op p.vars 0 x.l ps with
          | some ps' => lookFrom len (i + 1) xs ps'
          | none => .error i
        else .error i
      else .error i
    | none => .error i

def lookedL (f : FunD) : Except Nat (List Pl) :=
  if withinL [f.params, 0, 9, f.nodes.length, 1, 200] = true then
    lookFrom f.nodes.length 0 f.nodes ((List.replicate f.nodes.length ⟨0, 0, false⟩).set 0 ⟨0, f.params, true⟩)
  else .error 0
end Go.Proofs.Ytpopkajkekceiaa

namespace Go.Proofs.Ytpopkajkekceiaa
open Go Go.Abs
set_option maxRecDepth 100000
set_option linter.unusedSimpArgs false
set_option linter.unusedVariables false

noncomputable def c06 : List (Contract Try.prog) := [withinC, mustC, noneC, functionC, everyC, variableC, shapesC]

theorem c06_within {H : Heap} {v : Value} (hs : small v = true) (hl : (rdInts H .i64 v).isSome = true) : callOf c06 (.fn 48 [v]) H = some (.ret (.bool (withinL ((rdInts H .i64 v).getD []))), H) := by
  obtain ⟨l, hl⟩ := Option.isSome_iff_exists.1 hl
  refine callOf_hit rfl ?_
  simp [withinC, Contract.plain, hs, hl]
theorem c06_must {H : Heap} {b : Bool} {n : Int} : callOf c06 (.fn 47 [.bool b, .int .i64 n]) H = some (bif b then .ret (.tuple #[]) else .pan (.iface 89 (.int .i64 n)), H) := by
  unfold c06
  rw [callOf_miss (by decide)]
  exact callOf_hit rfl rfl
theorem c06_number {H : Heap} {f : Nat} (hf : f = 55 ∨ f = 56 ∨ f = 57 ∨ f = 58) {n m : Int} : callOf c06 (.fn f [.int .i64 n, .int .i64 m]) H = some (.ret (.bool (numberOk f n m)), H) := by
  unfold c06
  rcases hf with rfl | rfl | rfl | rfl <;> rw [callOf_miss (by decide), callOf_miss (by decide)]
  · exact callOf_hit rfl rfl
  · rw [callOf_miss (by decide)]; exact callOf_hit rfl rfl
  · rw [callOf_miss (by decide), callOf_miss (by decide)]; exact callOf_hit rfl rfl
  · rw [callOf_miss (by decide), callOf_miss (by decide), callOf_miss (by decide)]; exact callOf_hit rfl rfl
theorem c06_shapes {H : Heap} : callOf c06 (.fn 49 []) H = some (.ret (.agg (shapeCells (List.range 25)).toArray), H) := by
  unfold c06
  rw [callOf_miss (by decide), callOf_miss (by decide), callOf_miss (by decide), callOf_miss (by decide), callOf_miss (by decide), callOf_miss (by decide)]
  exact callOf_hit rfl rfl

theorem build3 {H : Heap} {k0 k1 k2 : IntKind} {a b c : Int} : buildSliceA Try.prog 38 3 [(0, .int k0 a), (1, .int k1 b), (2, .int k2 c)] H = some (.slice (some ⟨H.next, 0, none⟩) 3 3, H.push (.cells true 1 [.int k0 a, .int k1 b, .int k2 c])) := by rfl
set_option maxHeartbeats 1000000 in
theorem build6 {H : Heap} {k0 k1 k2 k3 k4 k5 : IntKind} {a b c d e f : Int} : buildSliceA Try.prog 38 6 [(0, .int k0 a), (1, .int k1 b), (2, .int k2 c), (3, .int k3 d), (4, .int k4 e), (5, .int k5 f)] H = some (.slice (some ⟨H.next, 0, none⟩) 6 6, H.push (.cells true 1 [.int k0 a, .int k1 b, .int k2 c, .int k3 d, .int k4 e, .int k5 f])) := by kernel_rfl
theorem rd3 {H : Heap} {a b c : Int} : rdInts (H.push (.cells true 1 [.int .i64 a, .int .i64 b, .int .i64 c])) .i64 (.slice (some ⟨H.next, 0, none⟩) 3 3) = some [a, b, c] := by
  simp [rdInts, rdS, get_push_self, capA, BIG, chunks]
theorem rd6 {H : Heap} {a b c d e f : Int} : rdInts (H.push (.cells true 1 [.int .i64 a, .int .i64 b, .int .i64 c, .int .i64 d, .int .i64 e, .int .i64 f])) .i64 (.slice (some ⟨H.next, 0, none⟩) 6 6) = some [a, b, c, d, e, f] := by
  simp [rdInts, rdS, get_push_self, capA, BIG, chunks]
theorem small3 {H : Heap} : small (.slice (some ⟨H.next, 0, none⟩) 3 3) = true := by rfl
theorem small6 {H : Heap} : small (.slice (some ⟨H.next, 0, none⟩) 6 6) = true := by rfl



/-! ### The table of places -/
theorem flatP_length : ∀ ps : List Pl, (flatP ps).length = 3 * ps.length
  | [] => rfl
  | p :: ps => by simp only [flatP, List.length_cons, flatP_length ps]; omega
theorem flatP_get : ∀ (ps : List Pl) (i : Nat) (p : Pl), ps[i]? = some p → (flatP ps)[i * 3]? = some (.int .i64 p.above) ∧ (flatP ps)[i * 3 + 1]? = some (.int .i64 p.vars) ∧ (flatP ps)[i * 3 + 2]? = some (.bool p.has)
  | [], i, p, h => by simp at h
  | q :: ps, 0, p, h => by simp at h; subst h; exact ⟨rfl, rfl, rfl⟩
  | q :: ps, i + 1, p, h => by
    simp at h
    have := flatP_get ps i p h
    rw [show (i + 1) * 3 = i * 3 + 3 by omega]
    exact this
theorem flatP_put : ∀ (ps : List Pl) (i : Nat) (p : Pl), i < ps.length → putL (flatP ps) (i * 3) [.int .i64 p.above, .int .i64 p.vars, .bool p.has] = flatP (ps.set i p)
  | [], i, p, h => by simp at h
  | q :: ps, 0, p, h => by simp [flatP, putL]
  | q :: ps, i + 1, p, h => by
    simp at h
    have := flatP_put ps i p h
    rw [List.set_cons_succ]
    simp only [flatP]
    rw [← this, show (i + 1) * 3 = i * 3 + 3 by omega]
    simp [putL]
theorem flatP_put1 : ∀ (ps : List Pl) (i : Nat) (p : Pl) (v : Int), ps[i]? = some p → putL (flatP ps) (i * 3 + 1) [.int .i64 v] = flatP (ps.set i { p with vars := v })
  | [], i, p, v, h => by simp at h
  | q :: ps, 0, p, v, h => by simp at h; subst h; simp [flatP, putL]
  | q :: ps, i + 1, p, v, h => by
    simp at h
    have := flatP_put1 ps i p v h
    rw [List.set_cons_succ]
    simp only [flatP]
    rw [← this, show (i + 1) * 3 + 1 = (i * 3 + 1) + 3 by omega]
    simp [putL]
theorem flatP_made (m : Nat) : madeL [.int .i64 0, .int .i64 0, .bool false] (m * 3) = flatP (List.replicate m ⟨0, 0, false⟩) := by
  apply List.ext_getElem?
  intro j
  have hlen : (flatP (List.replicate m ⟨0, 0, false⟩)).length = 3 * m := by rw [flatP_length]; simp
  by_cases hj : j < m * 3
  · have hd : j / 3 < m := by omega
    obtain ⟨h0, h1, h2⟩ := flatP_get (List.replicate m ⟨0, 0, false⟩) (j / 3) ⟨0, 0, false⟩ (by simp [hd])
    have hm : (madeL [.int .i64 0, .int .i64 0, .bool false] (m * 3))[j]? = some ([Value.int .i64 0, .int .i64 0, .bool false].getD (j % 3) undef) := by
      simp [madeL, hj]
    rw [hm]
    have : j % 3 = 0 ∨ j % 3 = 1 ∨ j % 3 = 2 := by omega
    rcases this with e | e | e
    · rw [e, show j = j / 3 * 3 by omega, h0]; rfl
    · rw [e, show j = j / 3 * 3 + 1 by omega, h1]; rfl
    · rw [e, show j = j / 3 * 3 + 2 by omega, h2]; rfl
  · rw [List.getElem?_eq_none (by simp [madeL]; omega), List.getElem?_eq_none (by omega)]

theorem makeP {H : Heap} {m : Nat} (hm : m ≤ 200) : makeSliceA Try.prog 91 (m : Int) (m : Int) H = some (.slice (some ⟨H.next, 0, none⟩) m m, H.push (.cells true 3 (flatP (List.replicate m ⟨0, 0, false⟩)))) := by
  have he : elemA Try.prog 91 = some (65, Try.t65) := by rfl
  have hz : zeroA Try.prog 65 = some (.agg #[.int .i64 0, .int .i64 0, .bool false], 3) := by rfl
  have hsz : Try.t65.size = 3 := by rfl
  have hby : Try.t65.bytes ≤ 65536 := by decide
  simp only [makeSliceA, he, hz]
  rw [if_pos ⟨by omega, Int.le_refl _, by omega, hby, by decide, by rfl⟩]
  simp [hsz, flatP_made]
end Go.Proofs.Ytpopkajkekceiaa

namespace Go.Proofs.Ytpopkajkekceiaa
open Go Go.Abs
set_option maxRecDepth 100000
set_option linter.unusedSimpArgs false
set_option linter.unusedVariables false

theorem looked_R0 {call : CallF} {lf : Nat} {H : Heap} {p : Int} {s : Value} (hs : oneC s = true) :
    ∃ env', evCode Try.prog call lf 158 none (cAt Try.f30 [0]) (envOf 0 [.agg #[.int .i64 p, s]] .nil) [] H = some (.normal, env', [], H.push (.cells true 2 [.int .i64 p, s])) ∧ env'.val 1 = .pointer (some ⟨H.next, 0, none⟩) := by
  generalize hr : evCode Try.prog call lf 158 none (cAt Try.f30 [0]) (envOf 0 [.agg #[.int .i64 p, s]] .nil) [] H = out
  simp [Try.f30, hs] at hr
  subst hr
  simp

theorem built93 {a b : Value} {x : Option Addr} {n c : Nat} : Try.prog.built 93 [(0, .agg #[a, b]), (1, .slice x n c)] = some #[a, b, .slice x n c] := by kernel_rfl

theorem looked_R1 {call : CallF} {lf : Nat} {env : Env} {H : Heap} {p : Int} {s : Value} {b0 m : Nat} {es : Nat} {xs : List (List Value)} (hw : H.Wf) (h1 : env.val 1 = .pointer (some ⟨b0, 0, none⟩)) (h0 : H.get b0 = some (.cells true 2 [.int .i64 p, s])) (hs : rdS H es s = some xs) (hm : m = min xs.length 200) :
    ∃ env', evCode Try.prog call lf 158 none (cAt Try.f30 [1, 0]) env [] H = some (.normal, env', [], (H.push (.cells true 3 (flatP (List.replicate m ⟨0, 0, false⟩)))).push (.cells true 3 [.int .i64 p, s, .slice (some ⟨H.next, 0, none⟩) m m])) ∧ env'.val 1 = .pointer (some ⟨b0, 0, none⟩) ∧ env'.val 3 = .pointer (some ⟨H.next + 1, 0, none⟩) := by
  obtain ⟨e1, e2, e3, e4⟩ := rdS_one hs
  have hb := len_of (H' := H) (P := Try.prog) (t := 22) hs Try.underlying22
  have hlt : b0 < H.next := hw.lt h0
  have hmk := makeP (H := H) (m := m) (by omega)
  generalize hr : evCode Try.prog call lf 158 none (cAt Try.f30 [1, 0]) env [] H = out
  have ld : loadA Try.prog 24 H b0 0 = some (.agg #[.int .i64 p, s]) := by
    simp [loadA, h0]
  have ld1 : loadA Try.prog 22 H b0 1 = some s := by
    simp [loadA, h0]
  have hmin : (if (200 : Int) < (xs.length : Int) then (200 : Int) else (xs.length : Int)) = (m : Int) := by split <;> omega
  have n1 : b0 ≠ H.next := by omega
  have n2 : b0 ≠ H.next + 1 := by omega
  simp [Try.f30] at hr
  rw [evDraw_tab (tab := [(0, [7])])] at hr
  · simp [Try.f30, h1, ld, ld1, hb, hmin, hmk, built93, e2, e3, e4, loadA_push, n1, n2] at hr
    subst hr
    simp [h1]
  · kernel_rfl
  · kernel_rfl

theorem looked_R2 {lf : Nat} {env : Env} {H : Heap} {p : Int} {s : Value} {b0 b2 : Nat} {es : Nat} {xs : List (List Value)} (hw : H.Wf) (h1 : env.val 1 = .pointer (some ⟨b0, 0, none⟩)) (h3 : env.val 3 = .pointer (some ⟨b2, 0, none⟩)) (h0 : H.get b0 = some (.cells true 2 [.int .i64 p, s])) (hs : rdS H es s = some xs) :
    (withinL [p, 0, 9, xs.length, 1, 200] = true → ∃ env', evCode Try.prog (callOf c06) lf 158 none (cAt Try.f30 [1, 1, 0]) env [] H = some (.normal, env', [], H.push (.cells true 1 [.int .i64 p, .int .i64 0, .int .i64 9, .int .i64 xs.length, .int .i64 1, .int .i64 200])) ∧ env'.val 1 = .pointer (some ⟨b0, 0, none⟩) ∧ env'.val 3 = .pointer (some ⟨b2, 0, none⟩)) ∧
    (withinL [p, 0, 9, xs.length, 1, 200] = false → ∃ env', evCode Try.prog (callOf c06) lf 158 none (cAt Try.f30 [1, 1, 0]) env [] H = some (.panic (.iface 89 (.int .i64 0)), env', [], H.push (.cells true 1 [.int .i64 p, .int .i64 0, .int .i64 9, .int .i64 xs.length, .int .i64 1, .int .i64 200]))) := by
  obtain ⟨e1, e2, e3, e4⟩ := rdS_one hs
  have hb := len_of (H' := H) (P := Try.prog) (t := 22) hs Try.underlying22
  have ld0 : loadA Try.prog 3 H b0 0 = some (.int .i64 p) := by
    simp [loadA, h0]
  have ld1 : loadA Try.prog 22 H b0 1 = some s := by
    simp [loadA, h0]
  generalize hr : evCode Try.prog (callOf c06) lf 158 none (cAt Try.f30 [1, 1, 0]) env [] H = out
  cases hwl : withinL [p, 0, 9, xs.length, 1, 200] with
  | true =>
    simp [Try.f30, h1, ld0, ld1, hb, build6, rd6, small6, c06_within, c06_must, callA, hwl] at hr
    subst hr
    simp [h1, h3]
  | false =>
    simp [Try.f30, h1, ld0, ld1, hb, build6, rd6, small6, c06_within, c06_must, callA, hwl] at hr
    subst hr
    simp
end Go.Proofs.Ytpopkajkekceiaa

namespace Go.Proofs.Ytpopkajkekceiaa
open Go Go.Abs
set_option maxRecDepth 100000
set_option linter.unusedSimpArgs false
set_option linter.unusedVariables false

theorem built65 {k k' : IntKind} {a b : Int} {c : Bool} : Try.prog.built 65 [(0, .int k a), (1, .int k' b), (2, .bool c)] = some #[.int k a, .int k' b, .bool c] := by kernel_rfl

theorem storeP {H : Heap} {b i : Nat} {ps : List Pl} {v w : Int} {c : Bool} (h : H.get b = some (.cells true 3 (flatP ps))) (hi : i < ps.length) :
    storeA Try.prog 65 H b (i * 3) (.agg #[.int .i64 v, .int .i64 w, .bool c]) = some (H.set b (.cells true 3 (flatP (ps.set i ⟨v, w, c⟩)))) := by
  have := flatP_put ps i ⟨v, w, c⟩ hi
  simp only [storeA, h, info65, size65, cells_agg]
  rw [if_pos ⟨rfl, by rw [flatP_length]; omega, rfl⟩]
  simp only [this]
theorem storeP1 {H : Heap} {b i : Nat} {ps : List Pl} {p : Pl} {w : Int} (h : H.get b = some (.cells true 3 (flatP ps))) (hi : ps[i]? = some p) :
    storeA Try.prog 3 H b (i * 3 + 1) (.int .i64 w) = some (H.set b (.cells true 3 (flatP (ps.set i { p with vars := w })))) := by
  have := flatP_put1 ps i p w hi
  have hl := (List.getElem?_eq_some_iff.1 hi).1
  simp only [storeA, h, info3, size3, cells_int]
  rw [if_pos ⟨rfl, by rw [flatP_length]; omega, rfl⟩]
  simp only [this]
theorem indexP {b i m c : Nat} (hi : i < m) : indexAddrA Try.prog 91 (.slice (some ⟨b, 0, none⟩) m c) (i : Int) = some (.pointer (some ⟨b, i * 3, none⟩)) := by
  simp only [indexAddrA, Try.underlying91, info65, size65]
  rw [if_pos ⟨by omega, by omega⟩]
  simp
theorem loadP {H : Heap} {b i : Nat} {ps : List Pl} {p : Pl} (h : H.get b = some (.cells true 3 (flatP ps))) (hi : ps[i]? = some p) :
    loadA Try.prog 3 H b (i * 3 + 1) = some (.int .i64 p.vars) ∧ loadA Try.prog 4 H b (i * 3 + 2) = some (.bool p.has) := by
  obtain ⟨h0, h1, h2⟩ := flatP_get ps i p hi
  simp [loadA, h, h1, h2]

theorem looked_R3 {call : CallF} {lf : Nat} {env : Env} {H : Heap} {p : Int} {s : Value} {b0 b1 b2 m : Nat} {ps : List Pl} (h1 : env.val 1 = .pointer (some ⟨b0, 0, none⟩)) (h3 : env.val 3 = .pointer (some ⟨b2, 0, none⟩)) (h0 : H.get b0 = some (.cells true 2 [.int .i64 p, s]))
    (h2 : H.get b2 = some (.cells true 3 [.int .i64 p, s, .slice (some ⟨b1, 0, none⟩) m m])) (hp : H.get b1 = some (.cells true 3 (flatP ps))) (hm : 0 < m) (hl : ps.length = m) :
    ∃ env', evCode Try.prog call lf 158 none (cAt Try.f30 [1, 1, 1, 0]) env [] H = some (.normal, env', [], H.set b1 (.cells true 3 (flatP (ps.set 0 ⟨0, p, true⟩)))) ∧ env'.val 1 = .pointer (some ⟨b0, 0, none⟩) ∧ env'.val 3 = .pointer (some ⟨b2, 0, none⟩) := by
  have ld0 : loadA Try.prog 3 H b0 0 = some (.int .i64 p) := by
    simp [loadA, h0]
  have ld1 : loadA Try.prog 91 H b2 2 = some (.slice (some ⟨b1, 0, none⟩) m m) := by
    simp [loadA, h2]
  have ix := indexP (b := b1) (c := m) hm
  have st := storeP (v := 0) (w := p) (c := true) hp (i := 0) (by omega)
  simp at ix st
  generalize hr : evCode Try.prog call lf 158 none (cAt Try.f30 [1, 1, 1, 0]) env [] H = out
  simp [Try.f30] at hr
  rw [evDraw_tab (tab := [])] at hr
  · simp [Try.f30, h1, h3, ld0, ld1, built65, ix, st] at hr
    subst hr
    simp [h1, h3]
  · kernel_rfl
  · kernel_rfl

noncomputable def z99 : List Value := match zeroA Try.prog 99 with
  | some (z, _) => z.cells.toList
  | none => []
theorem zero99 : zeroA Try.prog 99 = some (.agg z99.toArray, 75) := by kernel_rfl
theorem z99_size : z99.length = 75 := by kernel_rfl
theorem z99_one : z99.all oneC = true := by kernel_rfl
noncomputable def shapesL : List Value := shapeCells (List.range 25)
theorem shapesL_one : shapesL.all oneC = true := by kernel_rfl
theorem shapesL_len : shapesL.length = 75 := by kernel_rfl

theorem looked_R4 {lf : Nat} {env : Env} {H : Heap} :
    ∃ env', evCode Try.prog (callOf c06) lf 158 none (cAt Try.f30 [1, 1, 1, 1, 0]) env [] H = some (.normal, env', [], (H.push (.cells true 75 z99)).set H.next (.cells true 75 shapesL)) ∧ env'.val 1 = env.val 1 ∧ env'.val 3 = env.val 3 ∧ env'.val 4 = .pointer (some ⟨H.next, 0, none⟩) := by
  have st : storeA Try.prog 99 (H.push (.cells true 75 z99)) H.next 0 (.agg shapesL.toArray) = some ((H.push (.cells true 75 z99)).set H.next (.cells true 75 shapesL)) := by
    simp only [storeA, get_push_self, info99, size99, cells_agg, List.size_toArray, shapesL_len]
    rw [if_pos ⟨trivial, by rw [z99_size]; omega, shapesL_one⟩]
    simp only [putL, List.take_zero, List.nil_append, Nat.zero_add, shapesL_len]
    rw [List.drop_eq_nil_of_le (by rw [z99_size]; omega), List.append_nil]
  have hz := z99_one
  have hcs : callOf c06 (.fn 49 []) H = some (.ret (.agg shapesL.toArray), H) := c06_shapes
  simp at hz
  generalize hr : evCode Try.prog (callOf c06) lf 158 none (cAt Try.f30 [1, 1, 1, 1, 0]) env [] H = out
  simp [Try.f30, zero99, hcs, callA, z99_size, st, eq_true hz] at hr
  subst hr
  simp

theorem looked_R5 {call : CallF} {lf : Nat} {env : Env} {H : Heap} {p0 s : Value} {b2 : Nat} {w : Value} {es : Nat} {xs : List (List Value)} (h3 : env.val 3 = .pointer (some ⟨b2, 0, none⟩)) 
    (h2 : H.get b2 = some (.cells true 3 [p0, s, w])) (hs : rdS H es s = some xs) :
    ∃ env', evCode Try.prog call lf 158 none (cAt Try.f30 [1, 1, 1, 1, 1, 0, 0]) env [] H = some (.normal, env', [], H) ∧ env'.val 1 = env.val 1 ∧ env'.val 3 = env.val 3 ∧ env'.val 4 = env.val 4 ∧ env'.val 40 = s ∧ env'.val 41 = .int .i64 xs.length ∧ env'.val 42 = .int .i64 0 := by
  have hb := len_of (H' := H) (P := Try.prog) (t := 22) hs Try.underlying22
  have ld1 : loadA Try.prog 22 H b2 1 = some s := by
    simp [loadA, h2]
  generalize hr : evCode Try.prog call lf 158 none (cAt Try.f30 [1, 1, 1, 1, 1, 0, 0]) env [] H = out
  simp [Try.f30, h3, ld1, hb] at hr
  subst hr
  simp [h3]
end Go.Proofs.Ytpopkajkekceiaa

namespace Go.Proofs.Ytpopkajkekceiaa
open Go Go.Abs
set_option maxRecDepth 100000
set_option linter.unusedSimpArgs false
set_option linter.unusedVariables false

/-- The body of the loop over nodes; of what it does in a round. -/
def pL : List Nat := [1, 1, 1, 1, 1, 0, 1, 0, 0]
def pB : List Nat := [1, 1, 1, 1, 1, 0, 1, 0, 0, 1, 1, 0, 0]

theorem store3 {H : Heap} {a b c : Value} {x y z : Value} (ha : oneC a = true) (hb : oneC b = true) (hc : oneC c = true) (t : TypeId) (i : TypeInfo) (hi : Try.prog.info? t = some i) (hs : i.size = 3) :
    storeA Try.prog t (H.push (.cells true 3 [x, y, z])) H.next 0 (.agg #[a, b, c]) = some ((H.push (.cells true 3 [x, y, z])).set H.next (.cells true 3 [a, b, c])) := by
  simp only [storeA, get_push_self, hi, hs, cells_agg]
  rw [if_pos ⟨rfl, by simp, by simp [ha, hb, hc]⟩]
  simp [putL]

theorem shapeCells_get : ∀ (is : List Nat) (i j : Nat), is[i]? = some j → ((shapeCells is).drop (i * 3)).take 3 = [.func (.func (shapeOf j).1) #[] #[], .int .i64 (shapeOf j).2.1, .int .i64 (shapeOf j).2.2] ∧ i * 3 + 3 ≤ (shapeCells is).length
  | [], i, j, h => by simp at h
  | k :: is, 0, j, h => by simp at h; subst h; simp [shapeCells]
  | k :: is, i + 1, j, h => by
    simp at h
    have := shapeCells_get is i j h
    rw [show (i + 1) * 3 = i * 3 + 3 by omega]
    simp only [shapeCells, List.length_cons]
    exact ⟨this.1, by omega⟩

/-- A shape out of the table. -/
theorem shape_at {H : Heap} {b : Nat} {es : Nat} {own : Bool} (h : H.get b = some (.cells own es shapesL)) {op : Int} (h0 : 0 ≤ op) (h1 : op ≤ 24) :
    indexAddrA Try.prog 99 (.pointer (some ⟨b, 0, none⟩)) op = some (.pointer (some ⟨b, op.toNat * 3, none⟩)) ∧
    loadA Try.prog 98 H b (op.toNat * 3) = some (.agg #[.func (.func (shapeOf op.toNat).1) #[] #[], .int .i64 (shapeOf op.toNat).2.1, .int .i64 (shapeOf op.toNat).2.2]) := by
  constructor
  · simp only [indexAddrA, Try.underlying99, info98, size98]
    rw [if_pos ⟨h0, by omega⟩]
    simp
  · obtain ⟨g1, g2⟩ := shapeCells_get (List.range 25) op.toNat op.toNat (by rw [List.getElem?_range (by omega)])
    simp only [loadA, h, info98, Try.underlying98, size98, isAggD]
    unfold shapesL
    rw [if_pos trivial, if_pos g2, g1]

theorem looked_R7 {call : CallF} {lf : Nat} {env : Env} {H : Heap} {s : Value} {xs : List (List Value)} {i : Nat} {op n : Int} {l : Value} (h40 : env.val 40 = s) (h42 : env.val 42 = .int .i64 i) (hs : rdS H 3 s = some xs) (hx : xs[i]? = some [.int .i64 op, .int .i64 n, l]) (hl : oneC l = true) :
    ∃ env', evCode Try.prog call lf 158 none (cAt Try.f30 (pB ++ [0])) env [] H = some (.normal, env', [], (H.push (.cells true 3 [.int .i64 0, .int .i64 0, .slice none 0 0])).set H.next (.cells true 3 [.int .i64 op, .int .i64 n, l])) ∧
      env'.val 1 = env.val 1 ∧ env'.val 3 = env.val 3 ∧ env'.val 4 = env.val 4 ∧ env'.val 40 = env.val 40 ∧ env'.val 41 = env.val 41 ∧ env'.val 42 = env.val 42 ∧ env'.val 5 = .int .i64 i ∧ env'.val 6 = .pointer (some ⟨H.next, 0, none⟩) := by
  have hi := (List.getElem?_eq_some_iff.1 hx).1
  have ix := rdS_index hs Try.underlying22 info40 size40 (n := (i : Int)) (by omega) (by omega)
  have ld := rdS_loadA hs hx info40 size40 Try.underlying40 rfl
  have st := store3 (H := H) (a := .int .i64 op) (b := .int .i64 n) (c := l) (x := .int .i64 0) (y := .int .i64 0) (z := .slice none 0 0) rfl rfl hl 40 _ info40 size40
  simp at ix
  generalize hr : evCode Try.prog call lf 158 none (cAt Try.f30 (pB ++ [0])) env [] H = out
  simp [pB, Try.f30, h40, h42, ix, ld, st] at hr
  subst hr
  simp [h40, h42]

theorem looked_R8 {lf : Nat} {env : Env} {H : Heap} {b1 b2 b6 i m : Nat} {op n : Int} {l s p0 : Value} {ps : List Pl} {p : Pl} (h3 : env.val 3 = .pointer (some ⟨b2, 0, none⟩)) (h5 : env.val 5 = .int .i64 i) (h6 : env.val 6 = .pointer (some ⟨b6, 0, none⟩))
    (h2 : H.get b2 = some (.cells true 3 [p0, s, .slice (some ⟨b1, 0, none⟩) m m])) (hp : H.get b1 = some (.cells true 3 (flatP ps))) (hm : ps.length = m) (hi : ps[i]? = some p) (hb6 : H.get b6 = some (.cells true 3 [.int .i64 op, .int .i64 n, l])) :
    ∃ env' H', evCode Try.prog (callOf c06) lf 158 none (cAt Try.f30 (pB ++ [1, 0])) env [] H = some (if p.has = true ∧ 0 ≤ op ∧ op ≤ 24 then .normal else .panic (.iface 89 (.int .i64 i)), env', [], H') ∧ (H' = H ∨ ∃ o, H' = H.push o) ∧
      env'.val 1 = env.val 1 ∧ env'.val 3 = env.val 3 ∧ env'.val 4 = env.val 4 ∧ env'.val 40 = env.val 40 ∧ env'.val 41 = env.val 41 ∧ env'.val 42 = env.val 42 ∧ env'.val 5 = env.val 5 ∧ env'.val 6 = env.val 6 := by
  have hil := (List.getElem?_eq_some_iff.1 hi).1
  have ld1 : loadA Try.prog 91 H b2 2 = some (.slice (some ⟨b1, 0, none⟩) m m) := by
    simp [loadA, h2]
  have ix := indexP (b := b1) (c := m) (m := m) (i := i) (by omega)
  obtain ⟨lv, lh⟩ := loadP hp hi
  have lo : loadA Try.prog 37 H b6 0 = some (.int .i64 op) := by simp [loadA, hb6]
  generalize hr : evCode Try.prog (callOf c06) lf 158 none (cAt Try.f30 (pB ++ [1, 0])) env [] H = out
  cases hh : p.has with
  | false =>
    rw [if_neg (by simp)]
    simp [pB, Try.f30, h3, h5, h6, ld1, ix, lh, lo, hh, callA, c06_must] at hr
    subst hr
    exact ⟨_, _, rfl, .inl rfl, by simp [h3, h5, h6]⟩
  | true =>
    by_cases hop : 0 ≤ op ∧ op ≤ 24
    · have hw : withinL [op, 0, 24] = true := by simp [withinL]; omega
      rw [if_pos ⟨rfl, hop⟩]
      simp [pB, Try.f30, h3, h5, h6, ld1, ix, lh, lo, hh, build3, rd3, small3, c06_within, callA, c06_must, hw] at hr
      subst hr
      exact ⟨_, _, rfl, .inr ⟨_, rfl⟩, by simp [h3, h5, h6]⟩
    · have hw : withinL [op, 0, 24] = false := by simp [withinL]; omega
      rw [if_neg (fun h => hop h.2)]
      simp [pB, Try.f30, h3, h5, h6, ld1, ix, lh, lo, hh, build3, rd3, small3, c06_within, callA, c06_must, hw] at hr
      subst hr
      exact ⟨_, _, rfl, .inr ⟨_, rfl⟩, by simp [h3, h5, h6]⟩
end Go.Proofs.Ytpopkajkekceiaa

namespace Go.Proofs.Ytpopkajkekceiaa
open Go Go.Abs
set_option maxRecDepth 100000
set_option linter.unusedSimpArgs false
set_option linter.unusedVariables false

theorem shape_fn (k : Nat) : (shapeOf k).1 = 55 ∨ (shapeOf k).1 = 56 ∨ (shapeOf k).1 = 57 ∨ (shapeOf k).1 = 58 := by
  unfold shapeOf; split <;> simp
theorem shape_bodied {g : Nat} (h : g = 55 ∨ g = 56 ∨ g = 57 ∨ g = 58) : bodied Try.prog g = true := by
  rcases h with rfl | rfl | rfl | rfl <;> simp

theorem looked_R9 {call : CallF} {lf : Nat} {env : Env} {H : Heap} {b1 b2 b4 b6 i m : Nat} {op n : Int} {l s p0 : Value} {ps : List Pl} {p : Pl} (hw : H.Wf) (h3 : env.val 3 = .pointer (some ⟨b2, 0, none⟩)) (h4 : env.val 4 = .pointer (some ⟨b4, 0, none⟩)) (h5 : env.val 5 = .int .i64 i) (h6 : env.val 6 = .pointer (some ⟨b6, 0, none⟩))
    (h2 : H.get b2 = some (.cells true 3 [p0, s, .slice (some ⟨b1, 0, none⟩) m m])) (hp : H.get b1 = some (.cells true 3 (flatP ps))) (hm : ps.length = m) (hi : ps[i]? = some p) (hb6 : H.get b6 = some (.cells true 3 [.int .i64 op, .int .i64 n, l])) (hb4 : H.get b4 = some (.cells true 75 shapesL)) (ho0 : 0 ≤ op) (ho1 : op ≤ 24) :
    ∃ env', evCode Try.prog call lf 158 none (cAt Try.f30 (pB ++ [1, 1, 0])) env [] H = some (.normal, env', [], (H.push (.cells true 3 [.nilFunc, .int .i64 0, .int .i64 0])).set H.next (.cells true 3 [.func (.func (shapeOf op.toNat).1) #[] #[], .int .i64 (shapeOf op.toNat).2.1, .int .i64 (shapeOf op.toNat).2.2])) ∧
      env'.val 1 = env.val 1 ∧ env'.val 3 = env.val 3 ∧ env'.val 4 = env.val 4 ∧ env'.val 40 = env.val 40 ∧ env'.val 41 = env.val 41 ∧ env'.val 42 = env.val 42 ∧ env'.val 5 = env.val 5 ∧ env'.val 6 = env.val 6 ∧ env'.val 7 = .pointer (some ⟨H.next, 0, none⟩) ∧ env'.val 8 = .int .i64 p.vars := by
  have hil := (List.getElem?_eq_some_iff.1 hi).1
  have ld1 : loadA Try.prog 91 H b2 2 = some (.slice (some ⟨b1, 0, none⟩) m m) := by
    simp [loadA, h2]
  have ix := indexP (b := b1) (c := m) (m := m) (i := i) (by omega)
  obtain ⟨lv, lh⟩ := loadP hp hi
  have lo : loadA Try.prog 37 H b6 0 = some (.int .i64 op) := by simp [loadA, hb6]
  obtain ⟨sx, sl⟩ := shape_at hb4 ho0 ho1
  generalize (shapeOf op.toNat).1 = g at *
  generalize (shapeOf op.toNat).2.1 = le at *
  generalize (shapeOf op.toNat).2.2 = mo at *
  have st := store3 (H := H) (a := .func (.func g) #[] #[]) (b := .int .i64 le) (c := .int .i64 mo) (x := .nilFunc) (y := .int .i64 0) (z := .int .i64 0) rfl rfl rfl 98 _ info98 size98
  have n1 : b1 ≠ H.next := Nat.ne_of_lt (hw.lt hp)
  have n2 : b2 ≠ H.next := Nat.ne_of_lt (hw.lt h2)
  have n4 : b4 ≠ H.next := Nat.ne_of_lt (hw.lt hb4)
  have n6 : b6 ≠ H.next := Nat.ne_of_lt (hw.lt hb6)
  generalize hr : evCode Try.prog call lf 158 none (cAt Try.f30 (pB ++ [1, 1, 0])) env [] H = out
  simp [pB, Try.f30] at hr
  rw [evDraw_tab (tab := [(1, [13]), (3, [13]), (7, [13, 15]), (11, [13, 15])])] at hr
  · simp [h3, h4, h5, h6, ld1, ix, lv, lo, sx, sl, st, loadA_push, loadA_set, n1, n2, n4, n6] at hr
    subst hr
    exact ⟨_, rfl, by simp [h3, h4, h5, h6]⟩
  · kernel_rfl
  · kernel_rfl

theorem looked_R10 {lf : Nat} {env : Env} {H : Heap} {b6 b7 i g : Nat} {op n le mo vars : Int} {l : Value} {ll : List Int} (h5 : env.val 5 = .int .i64 i) (h6 : env.val 6 = .pointer (some ⟨b6, 0, none⟩)) (h7 : env.val 7 = .pointer (some ⟨b7, 0, none⟩)) (h8 : env.val 8 = .int .i64 vars)
    (hb6 : H.get b6 = some (.cells true 3 [.int .i64 op, .int .i64 n, l])) (hb7 : H.get b7 = some (.cells true 3 [.func (.func g) #[] #[], .int .i64 le, .int .i64 mo])) (hg : g = 55 ∨ g = 56 ∨ g = 57 ∨ g = 58) (hl : rdInts H .i64 l = some ll) :
    ∃ env' H', evCode Try.prog (callOf c06) lf 158 none (cAt Try.f30 (pB ++ [1, 1, 1, 0])) env [] H = some (if numberOk g n vars = true ∧ withinL [ll.length, le, mo, vars, 0, 64] = true then .normal else .panic (.iface 89 (.int .i64 i)), env', [], H') ∧ (H' = H ∨ ∃ o, H' = H.push o) ∧
      env'.val 1 = env.val 1 ∧ env'.val 3 = env.val 3 ∧ env'.val 4 = env.val 4 ∧ env'.val 40 = env.val 40 ∧ env'.val 41 = env.val 41 ∧ env'.val 42 = env.val 42 ∧ env'.val 5 = env.val 5 ∧ env'.val 6 = env.val 6 ∧ env'.val 8 = env.val 8 := by
  have l0 : loadA Try.prog 96 H b7 0 = some (.func (.func g) #[] #[]) := by
    simp [loadA, hb7]
  have l1 : loadA Try.prog 3 H b7 1 = some (.int .i64 le) := by simp [loadA, hb7]
  have l2 : loadA Try.prog 3 H b7 2 = some (.int .i64 mo) := by simp [loadA, hb7]
  have ln : loadA Try.prog 2 H b6 1 = some (.int .i64 n) := by simp [loadA, hb6]
  have ll' : loadA Try.prog 38 H b6 2 = some l := by simp [loadA, hb6]
  have hb := len_of (H' := H) (P := Try.prog) (t := 38) (rdInts_rd hl) Try.underlying38
  simp at hb
  have hbd := shape_bodied hg
  have hnum := c06_number (H := H) hg (n := n) (m := vars)
  generalize hr : evCode Try.prog (callOf c06) lf 158 none (cAt Try.f30 (pB ++ [1, 1, 1, 0])) env [] H = out
  cases hh : numberOk g n vars with
  | false =>
    rw [if_neg (by simp)]
    simp [pB, Try.f30, h5, h6, h7, h8, l0, l1, l2, ln, ll', hb, hbd, hnum, hh, callA, c06_must] at hr
    subst hr
    exact ⟨_, _, rfl, .inl rfl, by simp [h5, h6, h7, h8]⟩
  | true =>
    cases hwl : withinL [ll.length, le, mo, vars, 0, 64] with
    | true =>
      rw [if_pos ⟨rfl, rfl⟩]
      simp [pB, Try.f30, h5, h6, h7, h8, l0, l1, l2, ln, ll', hb, hbd, hnum, hh, callA, c06_must, build6, rd6, small6, c06_within, hwl] at hr
      subst hr
      exact ⟨_, _, rfl, .inr ⟨_, rfl⟩, by simp [h5, h6, h7, h8]⟩
    | false =>
      rw [if_neg (by simp)]
      simp [pB, Try.f30, h5, h6, h7, h8, l0, l1, l2, ln, ll', hb, hbd, hnum, hh, callA, c06_must, build6, rd6, small6, c06_within, hwl] at hr
      subst hr
      exact ⟨_, _, rfl, .inr ⟨_, rfl⟩, by simp [h5, h6, h7, h8]⟩

theorem looked_R11 {call : CallF} {lf : Nat} {env : Env} {H : Heap} {b6 : Nat} {op n : Value} {l : Value} {ll : List Int} (h6 : env.val 6 = .pointer (some ⟨b6, 0, none⟩))
    (hb6 : H.get b6 = some (.cells true 3 [op, n, l])) (hl : rdInts H .i64 l = some ll) :
    ∃ env', evCode Try.prog call lf 158 none (cAt Try.f30 (pB ++ [1, 1, 1, 1, 0])) env [] H = some (.normal, env', [], H) ∧
      env'.val 1 = env.val 1 ∧ env'.val 3 = env.val 3 ∧ env'.val 4 = env.val 4 ∧ env'.val 40 = env.val 40 ∧ env'.val 41 = env.val 41 ∧ env'.val 42 = env.val 42 ∧ env'.val 5 = env.val 5 ∧ env'.val 6 = env.val 6 ∧ env'.val 8 = env.val 8 ∧ env'.val 96 = l ∧ env'.val 97 = .int .i64 ll.length ∧ env'.val 98 = .int .i64 0 := by
  have ll' : loadA Try.prog 38 H b6 2 = some l := by simp [loadA, hb6]
  have hb := len_of (H' := H) (P := Try.prog) (t := 38) (rdInts_rd hl) Try.underlying38
  simp at hb
  generalize hr : evCode Try.prog call lf 158 none (cAt Try.f30 (pB ++ [1, 1, 1, 1, 0])) env [] H = out
  simp [pB, Try.f30, h6, ll', hb] at hr
  subst hr
  exact ⟨_, rfl, by simp [h6]⟩
end Go.Proofs.Ytpopkajkekceiaa

namespace Go.Proofs.Ytpopkajkekceiaa
open Go Go.Abs
set_option maxRecDepth 100000
set_option linter.unusedSimpArgs false
set_option linter.unusedVariables false

theorem wrapI {n : Int} (h0 : -9223372036854775808 ≤ n) (h1 : n ≤ 9223372036854775807) : IntKind.i64.wrap n = n := by rw [IntKind.wrap_i64]; omega

/-- The body of the loop over what stands beneath a node. -/
def pK : List Nat := [1, 1, 1, 1, 1, 0, 1, 0, 0, 1, 1, 0, 0, 1, 1, 1, 1, 1, 0, 0]

/-- What the loops keep. -/
def keepO (env env' : Env) : Prop := env'.val 1 = env.val 1 ∧ env'.val 3 = env.val 3 ∧ env'.val 4 = env.val 4 ∧ env'.val 40 = env.val 40 ∧ env'.val 41 = env.val 41 ∧ env'.val 42 = env.val 42
def keepI (env env' : Env) : Prop := keepO env env' ∧ env'.val 5 = env.val 5 ∧ env'.val 6 = env.val 6 ∧ env'.val 8 = env.val 8 ∧ env'.val 96 = env.val 96 ∧ env'.val 97 = env.val 97

theorem kid_exit {call : CallF} {lf : Nat} {env : Env} {H : Heap} {k n : Nat} (h97 : env.val 97 = .int .i64 n) (h98 : env.val 98 = .int .i64 k) (hk : n ≤ k) :
    ∃ env', evCode Try.prog call lf 158 none (cAt Try.f30 pK) env [] H = some (.exit 2, env', [], H) ∧ keepI env env' := by
  have hc : ¬ ((k : Int) < (n : Int)) := by omega
  generalize hr : evCode Try.prog call lf 158 none (cAt Try.f30 pK) env [] H = out
  simp [pK, Try.f30, h97, h98, hc] at hr
  subst hr
  exact ⟨_, rfl, by simp [keepI, keepO, h97]⟩

theorem kid_R12 {call : CallF} {lf : Nat} {env : Env} {H : Heap} {k n : Nat} (h97 : env.val 97 = .int .i64 n) (h98 : env.val 98 = .int .i64 k) :
    ∃ env', evCode Try.prog call lf 158 none (cAt Try.f30 (pK ++ [0])) env [] H = some (.normal, env', [], H) ∧ keepI env env' ∧ env'.val 98 = env.val 98 ∧ env'.val 99 = .bool (decide (k < n)) := by
  generalize hr : evCode Try.prog call lf 158 none (cAt Try.f30 (pK ++ [0])) env [] H = out
  simp [pK, Try.f30, h97, h98] at hr
  subst hr
  exact ⟨_, rfl, by simp [keepI, keepO, h97, h98]⟩

theorem kid_R13 {call : CallF} {lf : Nat} {env : Env} {H : Heap} {k : Nat} {l : Value} {ll : List Int} {c : Int} (h96 : env.val 96 = l) (h98 : env.val 98 = .int .i64 k) (hl : rdInts H .i64 l = some ll) (hk : ll[k]? = some c) :
    ∃ env', evCode Try.prog call lf 158 none (cAt Try.f30 (pK ++ [1, 1, 0, 0, 0])) env [] H = some (.normal, env', [], H) ∧ keepI env env' ∧ env'.val 98 = env.val 98 ∧ env'.val 9 = .int .i64 k ∧ env'.val 10 = .int .i64 c := by
  obtain ⟨i0, l0⟩ := rdInts_at (n := k) (P := Try.prog) (t := 38) (e := 3) hl hk Try.underlying38 info3 rfl Try.underlying3 rfl
  generalize hr : evCode Try.prog call lf 158 none (cAt Try.f30 (pK ++ [1, 1, 0, 0, 0])) env [] H = out
  simp [pK, Try.f30, h96, h98, i0, l0] at hr
  subst hr
  exact ⟨_, rfl, by simp [keepI, keepO, h96, h98]⟩

theorem kid_R14 {lf : Nat} {env : Env} {H : Heap} {b1 b2 i m : Nat} {c : Int} {s p0 : Value} {ps : List Pl} {es : Nat} {xs : List (List Value)} (h3 : env.val 3 = .pointer (some ⟨b2, 0, none⟩)) (h5 : env.val 5 = .int .i64 i) (h10 : env.val 10 = .int .i64 c)
    (h2 : H.get b2 = some (.cells true 3 [p0, s, .slice (some ⟨b1, 0, none⟩) m m])) (hp : H.get b1 = some (.cells true 3 (flatP ps))) (hm : ps.length = m) (hs : rdS H es s = some xs) (hlen : xs.length = m) (hb : m ≤ 200) (hi : i < 200) (hw : H.Wf) :
    ∃ env' H', evCode Try.prog (callOf c06) lf 158 none (cAt Try.f30 (pK ++ [1, 1, 0, 0, 1, 0])) env [] H =
      some (if ((i : Int) + 1 ≤ c ∧ c ≤ (m : Int) - 1) ∧ (ps[c.toNat]?).map (·.has) = some false then .normal else .panic (.iface 89 (.int .i64 i)), env', [], H') ∧ (∃ o, H' = H.push o) ∧
      keepI env env' ∧ env'.val 98 = env.val 98 ∧ env'.val 9 = env.val 9 ∧ env'.val 10 = env.val 10 := by
  have ld1 : loadA Try.prog 91 H b2 2 = some (.slice (some ⟨b1, 0, none⟩) m m) := by
    simp [loadA, h2]
  have ld0 : loadA Try.prog 22 H b2 1 = some s := by
    simp [loadA, h2]
  have hb22 := len_of (H' := H) (P := Try.prog) (t := 22) hs Try.underlying22
  rw [hlen] at hb22
  have w1 : IntKind.i64.wrap ((i : Int) + 1) = (i : Int) + 1 := wrapI (by omega) (by omega)
  have w2 : IntKind.i64.wrap ((m : Int) - 1) = (m : Int) - 1 := wrapI (by omega) (by omega)
  have n1 : b1 ≠ H.next := Nat.ne_of_lt (hw.lt hp)
  have n2 : b2 ≠ H.next := Nat.ne_of_lt (hw.lt h2)
  generalize hr : evCode Try.prog (callOf c06) lf 158 none (cAt Try.f30 (pK ++ [1, 1, 0, 0, 1, 0])) env [] H = out
  by_cases hc : (i : Int) + 1 ≤ c ∧ c ≤ (m : Int) - 1
  · have hwl : withinL [c, (i : Int) + 1, (m : Int) - 1] = true := by simp [withinL]; omega
    obtain ⟨p, hpc⟩ : ∃ p, ps[c.toNat]? = some p := ⟨_, List.getElem?_eq_getElem (by omega)⟩
    have ix := indexP (b := b1) (c := m) (m := m) (i := c.toNat) (by omega)
    rw [show ((c.toNat : Nat) : Int) = c by omega] at ix
    obtain ⟨lv, lh⟩ := loadP hp hpc
    cases hh : p.has with
    | false =>
      rw [if_pos ⟨hc, by rw [hpc]; simp [hh]⟩]
      simp [pK, Try.f30, h3, h5, h10, ld0, ld1, hb22, w1, w2, build3, rd3, small3, c06_within, c06_must, callA, hwl, loadA_push, n1, n2, ix, lh, hh] at hr
      subst hr
      exact ⟨_, _, rfl, ⟨_, rfl⟩, by simp [keepI, keepO, h3, h5, h10]⟩
    | true =>
      rw [if_neg (by rw [hpc]; simp [hh])]
      simp [pK, Try.f30, h3, h5, h10, ld0, ld1, hb22, w1, w2, build3, rd3, small3, c06_within, c06_must, callA, hwl, loadA_push, n1, n2, ix, lh, hh] at hr
      subst hr
      exact ⟨_, _, rfl, ⟨_, rfl⟩, by simp [keepI, keepO, h3, h5, h10]⟩
  · have hwl : withinL [c, (i : Int) + 1, (m : Int) - 1] = false := by simp [withinL]; omega
    rw [if_neg (fun h => hc h.1)]
    simp [pK, Try.f30, h3, h5, h10, ld0, ld1, hb22, w1, w2, build3, rd3, small3, c06_within, c06_must, callA, hwl] at hr
    subst hr
    exact ⟨_, _, rfl, ⟨_, rfl⟩, by simp [keepI, keepO, h3, h5, h10]⟩
end Go.Proofs.Ytpopkajkekceiaa

namespace Go.Proofs.Ytpopkajkekceiaa
open Go Go.Abs
set_option maxRecDepth 100000
set_option linter.unusedSimpArgs false
set_option linter.unusedVariables false

theorem kid_R15 {call : CallF} {lf : Nat} {env : Env} {H : Heap} {b1 b2 i m : Nat} {c vars : Int} {s p0 : Value} {ps : List Pl} (h3 : env.val 3 = .pointer (some ⟨b2, 0, none⟩)) (h5 : env.val 5 = .int .i64 i) (h8 : env.val 8 = .int .i64 vars) (h10 : env.val 10 = .int .i64 c)
    (h2 : H.get b2 = some (.cells true 3 [p0, s, .slice (some ⟨b1, 0, none⟩) m m])) (hp : H.get b1 = some (.cells true 3 (flatP ps))) (hm : ps.length = m) (hc0 : 0 ≤ c) (hc1 : c < m) :
    ∃ env', evCode Try.prog call lf 158 none (cAt Try.f30 (pK ++ [1, 1, 0, 0, 1, 1, 0])) env [] H = some (.normal, env', [], H.set b1 (.cells true 3 (flatP (ps.set c.toNat ⟨i, vars, true⟩)))) ∧
      keepI env env' ∧ env'.val 98 = env.val 98 ∧ env'.val 9 = env.val 9 ∧ env'.val 10 = env.val 10 := by
  have ld1 : loadA Try.prog 91 H b2 2 = some (.slice (some ⟨b1, 0, none⟩) m m) := by
    simp [loadA, h2]
  have ix := indexP (b := b1) (c := m) (m := m) (i := c.toNat) (by omega)
  rw [show ((c.toNat : Nat) : Int) = c by omega] at ix
  have st := storeP (v := i) (w := vars) (c := true) hp (i := c.toNat) (by omega)
  generalize hr : evCode Try.prog call lf 158 none (cAt Try.f30 (pK ++ [1, 1, 0, 0, 1, 1, 0])) env [] H = out
  simp [pK, Try.f30, h3, h5, h8, h10, ld1, built65, ix, st] at hr
  subst hr
  exact ⟨_, rfl, by simp [keepI, keepO, h3, h5, h8, h10]⟩

theorem kid_R16 {call : CallF} {lf : Nat} {env : Env} {H : Heap} {b6 k : Nat} {op : Int} {n l : Value} (h6 : env.val 6 = .pointer (some ⟨b6, 0, none⟩)) (h9 : env.val 9 = .int .i64 k)
    (hb6 : H.get b6 = some (.cells true 3 [.int .i64 op, n, l])) :
    ∃ env', evCode Try.prog call lf 158 none (cAt Try.f30 (pK ++ [1, 1, 0, 0, 1, 1, 1, 0])) env [] H = some (.normal, env', [], H) ∧
      keepI env env' ∧ env'.val 98 = env.val 98 ∧ env'.val 10 = env.val 10 ∧ env'.val 143 = .bool (decide (op = 4 ∧ k = 1)) := by
  have lo : loadA Try.prog 37 H b6 0 = some (.int .i64 op) := by simp [loadA, hb6]
  generalize hr : evCode Try.prog call lf 158 none (cAt Try.f30 (pK ++ [1, 1, 0, 0, 1, 1, 1, 0])) env [] H = out
  by_cases h4 : op = 4
  · by_cases hk : k = 1
    · simp [pK, Try.f30, h6, h9, lo, h4, hk] at hr
      subst hr
      exact ⟨_, rfl, by simp [keepI, keepO, h6, h9, h4, hk]⟩
    · have hk' : ¬ ((k : Int) = 1) := by omega
      simp [pK, Try.f30, h6, h9, lo, h4, hk'] at hr
      subst hr
      exact ⟨_, rfl, by simp [keepI, keepO, h6, h9, h4, hk, hk']⟩
  · simp [pK, Try.f30, h6, h9, lo, h4] at hr
    subst hr
    exact ⟨_, rfl, by simp [keepI, keepO, h6, h9, h4]⟩

theorem kid_R17 {call : CallF} {lf : Nat} {env : Env} {H : Heap} {b1 b2 m : Nat} {c : Int} {s p0 : Value} {ps : List Pl} {p : Pl} (h3 : env.val 3 = .pointer (some ⟨b2, 0, none⟩)) (h10 : env.val 10 = .int .i64 c)
    (h2 : H.get b2 = some (.cells true 3 [p0, s, .slice (some ⟨b1, 0, none⟩) m m])) (hp : H.get b1 = some (.cells true 3 (flatP ps))) (hm : ps.length = m) (hc0 : 0 ≤ c) (hc : ps[c.toNat]? = some p) (hv0 : 0 ≤ p.vars) (hv1 : p.vars ≤ 64) :
    ∃ env', evCode Try.prog call lf 158 none (cAt Try.f30 (pK ++ [1, 1, 0, 0, 1, 1, 1, 1, 0])) env [] H = some (.normal, env', [], H.set b1 (.cells true 3 (flatP (ps.set c.toNat { p with vars := p.vars + 1 })))) ∧
      keepI env env' ∧ env'.val 98 = env.val 98 := by
  have hcl := (List.getElem?_eq_some_iff.1 hc).1
  have ld1 : loadA Try.prog 91 H b2 2 = some (.slice (some ⟨b1, 0, none⟩) m m) := by
    simp [loadA, h2]
  have ix := indexP (b := b1) (c := m) (m := m) (i := c.toNat) (by omega)
  rw [show ((c.toNat : Nat) : Int) = c by omega] at ix
  obtain ⟨lv, lh⟩ := loadP hp hc
  have w1 : IntKind.i64.wrap (p.vars + 1) = p.vars + 1 := wrapI (by omega) (by omega)
  have st := storeP1 (w := p.vars + 1) hp hc
  generalize hr : evCode Try.prog call lf 158 none (cAt Try.f30 (pK ++ [1, 1, 0, 0, 1, 1, 1, 1, 0])) env [] H = out
  simp [pK, Try.f30, h3, h10, ld1, ix, lv, w1, st] at hr
  subst hr
  exact ⟨_, rfl, by simp [keepI, keepO, h3, h10]⟩

theorem kid_R18 {call : CallF} {lf : Nat} {env : Env} {H : Heap} {k : Nat} (h98 : env.val 98 = .int .i64 k) (hk : k < 1099511627776) :
    ∃ env', evCode Try.prog call lf 158 none (cAt Try.f30 (pK ++ [1, 1, 1])) env [] H = some (.normal, env', [], H) ∧
      keepI env env' ∧ env'.val 98 = .int .i64 ((k + 1 : Nat) : Int) := by
  have w1 : IntKind.i64.wrap ((k : Int) + 1) = (k : Int) + 1 := wrapI (by omega) (by omega)
  generalize hr : evCode Try.prog call lf 158 none (cAt Try.f30 (pK ++ [1, 1, 1])) env [] H = out
  simp [pK, Try.f30, h98, w1] at hr
  subst hr
  exact ⟨_, rfl, by simp [keepI, keepO, h98]⟩
end Go.Proofs.Ytpopkajkekceiaa
