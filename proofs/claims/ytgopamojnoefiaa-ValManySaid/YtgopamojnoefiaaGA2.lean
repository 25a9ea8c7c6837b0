/-
  A part of a proof: texts laid behind one another (A7, A8, A9, A10, A11, A12).
-/
import Derived.Test.YtgopamojnoefiaaGA1
import Derived.Laws.Slices
import Derived.MapKept
import Derived.Scope
import Derived.RangeFuncLeaves
import Derived.RangeFuncRecord
import Derived.LoopNIn
import Derived.RecoverIn
/-
  What one operation does on the abstract heap it does in the model's world: (4) slices made, maps, and the statement for every operation.
-/
namespace Go.Abs
noncomputable section
open Go Go.RowKit
set_option linter.unusedVariables false
set_option linter.unusedSimpArgs false

variable {P : Program} {base : Nat} {w0 w : World} {r : Ren} {H : Heap} {env : Env} {ρ : Operand → Value}

theorem madeL_toArray (z : Value) (hz : 0 < z.cells.size) (n : Nat) : (madeL z.cells.toList n).toArray = madeCells z.cells n := by
  apply Array.ext'
  simp only [madeL, madeCells, Array.toList_map, Array.toList_range]
  apply List.map_congr_left
  intro j _
  have hlt : j % z.cells.size < z.cells.size := Nat.mod_lt _ hz
  simp only [Array.length_toList]
  rw [List.getD_eq_getElem?_getD, Array.getElem?_toList, Array.getElem?_eq_getElem hlt]
  simp [getElem!_pos, hlt]

theorem madeL_rel {r : Ren} {z : Value} (h : pureV z = true) (n : Nat) : LRel r (madeL z.cells.toList n) (madeL z.cells.toList n) := by
  have hc := (pureV_rel h r).cells
  refine ⟨rfl, fun i x y hx hy => ?_⟩
  rw [hx] at hy; cases hy
  simp only [madeL, List.getElem?_map] at hx
  cases hi : (List.range n)[i]? with
  | none => rw [hi] at hx; cases hx
  | some j =>
    rw [hi] at hx
    simp only [Option.map_some, Option.some.injEq] at hx
    subst hx
    rw [List.getD_eq_getElem?_getD]
    cases hg : z.cells.toList[j % z.cells.toList.length]? with
    | none => simp only [Option.getD_none]; exact .tuple rfl (fun i x y h => by simp at h)
    | some v => simp only [Option.getD_some]; exact hc.2 _ v v hg hg

theorem makeSliceA_sound {t : TypeId} {kl kc : IntKind} {l c : Int} {v : Value} {H' : Heap} (h : makeSliceA P t l c H = some (v, H')) (hR : Rel base w0 r H w) :
    ∃ v' w' r', (Instr.makeSlice t (.int kl l) (.int kc c)).run P w = .ok v' w' ∧ Ren.le r r' ∧ VRel r' v v' ∧ Rel base w0 r' H' w' := by
  unfold makeSliceA at h
  split at h
  rotate_left
  · cases h
  rename_i e i he
  obtain ⟨hu, hi⟩ := elemA_some he
  split at h
  rotate_left
  · cases h
  rename_i z n hz
  obtain ⟨i', hi', hzz, hpure, _⟩ := zeroA_rel hz
  rw [hi] at hi'; cases hi'
  split at h
  rotate_left
  · cases h
  rename_i hc
  obtain ⟨h0, hlc, hcm, hby, hsz, hzs⟩ := hc
  cases h
  have hbytes : (i.bytes : Int) * c ≤ 281474976710656 := by
    calc (i.bytes : Int) * c ≤ 65536 * 4294967296 := Int.mul_le_mul (by omega) hcm (by omega) (by omega)
      _ ≤ _ := by omega
  have hr := run_make (P := P) w t e i z hu hi hzz kl kc l c h0 hlc hbytes (by omega)
  obtain ⟨hR', hle⟩ := hR.newRow (madeL_rel hpure (c.toNat * i.size)) i.size (c.toNat * i.size) [] e (by simp [madeL])
  refine ⟨_, _, _, hr, hle, ?_, ?_⟩
  · exact .slice (Ren.add_self _ _ _) (.inl rfl) ⟨by omega, by simp only [maxLen]; omega, fun _ => rfl, fun hh => absurd hh (by rw [BIG_val]; omega)⟩
  · rw [List.append_nil, madeL_toArray z (by omega)] at hR'
    exact hR'

theorem buildSliceA_sound {t : TypeId} {len : Nat} {ps qs : List (Nat × Value)} {v : Value} {H' : Heap} (h : buildSliceA P t len ps H = some (v, H')) (hR : Rel base w0 r H w)
    (hl : ps.length = qs.length) (hp : ∀ (i : Nat) p q, ps[i]? = some p → qs[i]? = some q → p.1 = q.1 ∧ VRel r p.2 q.2) :
    ∃ v' w' r', (Instr.buildSlice t len qs.toArray).run P w = .ok v' w' ∧ Ren.le r r' ∧ VRel r' v v' ∧ Rel base w0 r' H' w' := by
  unfold buildSliceA at h
  split at h
  rotate_left
  · cases h
  rename_i e i he
  obtain ⟨hu, hi⟩ := elemA_some he
  split at h
  rotate_left
  · cases h
  rename_i z n hz
  obtain ⟨i', hi', hzz, hpure, _⟩ := zeroA_rel hz
  rw [hi] at hi'; cases hi'
  split at h
  rotate_left
  · cases h
  rename_i hc
  obtain ⟨hsm, hsz, hzs⟩ := hc
  split at h
  rotate_left
  · cases h
  rename_i cells hf
  cases h
  obtain ⟨us, hus, hrel⟩ := fill_rel _ ps qs _ (madeL z.cells.toList (len * i.size)).toArray cells hl hp (by simpa using madeL_rel hpure (len * i.size)) hf
  obtain ⟨hR', hle⟩ := hR.newRow hrel i.size us.size [] e (by simp)
  refine ⟨.slice (some ⟨w.heap.size, 0, none⟩) len len, w.alloc (.cells us e), _, ?_, hle, ?_, ?_⟩
  · have hn : ¬ (16777216 < len * i.size) := by omega
    have hmade : ∀ zz : Array Value, (len * i.size = 0 ∨ zz = z.cells) → (Array.range (len * i.size)).map (fun x => zz[x % zz.size]!) = (madeL z.cells.toList (len * i.size)).toArray := by
      rintro zz (h0 | rfl)
      · rw [h0]; simp [madeL]
      · rw [madeL_toArray z (by omega)]; rfl
    simp only [Instr.buildSlice, Sem.run_bind, run_underlying hu, Result.andThen_ok, run_sizeOf hi, gt_iff_lt, Nat.reducePow, hn, if_false, Sem.run_ite, Result.andThen_ite, Sem.run_pure, run_zeroValue hi hzz]
    split
    · rename_i h0
      rw [hmade _ (.inl h0), hus]
      rfl
    · rw [hmade _ (.inr rfl), hus]
      rfl
  · have hlen : len ≤ 65536 := Nat.le_trans (Nat.le_mul_of_pos_right _ hsz) hsm
    exact .slice (Ren.add_self _ _ _) (.inl rfl) ⟨Nat.le_refl _, by simp only [maxLen]; omega, fun _ => rfl, fun hh => absurd hh (by rw [BIG_val]; omega)⟩
  · simpa using hR'

/-! ### '==' and arithmetic -/
theorem eqA_sound {t : TypeId} {x y x' y' : Value} {b : Bool} (h : eqA P t x y = some b) (hx : VRel r x x') (hy : VRel r y y') (w : World) : (Op.equal t x' y').run P w = .ok b w := by
  suffices hd : ∀ d, (Op.equalIn (d + 1) t x' y').run P w = .ok b w from hd 9999
  intro d
  unfold eqA at h
  split at h
  rotate_right
  · cases h
  all_goals
    rename_i hu
    injection h with h
    subst h
    cases hx <;> cases hy <;> simp [Op.equalIn, run_underlying hu]

theorem intBinA_sound {op : BinOp} {k : IntKind} {a b : Int} {t : TypeId} {v : Value} (h : intBinA op k a b = some v) (w : World) : (binOp op t (.int k a) (.int k b)).run P w = .ok v w ∧ VRel r v v := by
  unfold intBinA at h
  split at h <;> first
    | (simp only [Option.some.injEq] at h; subst h; exact ⟨by simp [binOp, Op.intArith, Op.intCmp], by first | exact .int _ _ | exact .bool _⟩)
    | (split at h
       · cases h
       · rename_i hb
         simp only [Option.some.injEq] at h; subst h; exact ⟨by simp [binOp, Op.intDiv, hb], .int _ _⟩)
    | cases h

theorem eqGuard_plain (op : BinOp) (t : TypeId) (xo yo : Operand) {x y : Value} (h1 : x = .nilIface → y = .nilIface → False) (h2 : ∀ xs ys, x = .agg xs → y = .agg ys → False) (w : World) : (eqGuard op t xo yo x y).run P w = .ok () w := by
  simp only [eqGuard]
  repeat' split
  all_goals first
    | rfl
    | exact (h1 rfl rfl).elim
    | exact (h2 _ _ rfl rfl).elim
    | simp_all

theorem eqGuard_nil (op : BinOp) (t : TypeId) (xo yo : Operand) (h : (Region.isConst xo || Region.isConst yo) = true) (w : World) : (eqGuard op t xo yo .nilIface .nilIface).run P w = .ok () w := by
  simp only [eqGuard]
  revert h
  cases op <;> cases xo <;> cases yo <;> simp [Region.isConst]

theorem run_eql_as {x y : Value} {t : TypeId} {b : Bool} (w : World) (h : (Op.equal t x y).run P w = .ok b w) (hx : ∀ k n, x ≠ .int k n) (hf : ∀ k n, x ≠ .float k n) (hc : ∀ k a b, x ≠ .complex k a b) (hs : ∀ s, x ≠ .string s) :
    (binOp .eql t x y).run P w = .ok (.bool b) w ∧ (binOp .neq t x y).run P w = .ok (.bool (!b)) w := by
  have e1 : binOp .eql t x y = (do pure (.bool (← Op.equal t x y))) := by
    unfold binOp
    split <;> first | rfl | simp_all
  have e2 : binOp .neq t x y = (do pure (.bool (!(← Op.equal t x y)))) := by
    unfold binOp
    split <;> first | rfl | simp_all
  rw [e1, e2]
  simp [h]

theorem binA_sound {op : BinOp} {t yt : TypeId} {xo yo : Operand} {x y v : Value} (h : binA P op t xo yo x y = some v) (hx : VRel r x (ρ xo)) (hy : VRel r y (ρ yo)) (w : World) :
    ∃ v', (do eqGuard op t xo yo (ρ xo) (ρ yo); binOp op t (ρ xo) (ρ yo) : Sem Value).run P w = .ok v' w ∧ VRel r v v' := by
  generalize ρ xo = x' at hx
  generalize ρ yo = y' at hy
  unfold binA at h
  split at h
  · -- whole numbers
    rename_i k a k' b
    split at h
    · rename_i hk
      subst hk
      cases hx; cases hy
      obtain ⟨h1, h2⟩ := intBinA_sound (P := P) (t := t) h w
      refine ⟨v, ?_, h2⟩
      rw [Sem.run_bind, eqGuard_plain _ _ _ _ (fun e => by cases e) (fun _ _ e => by cases e), Result.andThen_ok, h1]
    · cases h
  · -- strings
    rename_i a b
    cases hx; cases hy
    split at h
    · injection h with h; subst h
      refine ⟨_, ?_, .bool _⟩
      rw [Sem.run_bind, eqGuard_plain _ _ _ _ (fun e => by cases e) (fun _ _ e => by cases e), Result.andThen_ok]
      simp only [binOp, Op.stringOp, Sem.run_pure]
    · injection h with h; subst h
      refine ⟨_, ?_, .bool _⟩
      rw [Sem.run_bind, eqGuard_plain _ _ _ _ (fun e => by cases e) (fun _ _ e => by cases e), Result.andThen_ok]
      simp only [binOp, Op.stringOp, Sem.run_pure]
    · cases h
  · -- nil against a literal nil
    cases hx; cases hy
    split at h
    · rename_i hc
      have hg := eqGuard_nil (P := P) op t xo yo hc w
      split at h
      · rename_i hu
        injection h with h; subst h
        have he : ∀ d, (Op.equalIn (d + 1) t .nilIface .nilIface).run P w = .ok true w := fun d => by simp [Op.equalIn, run_underlying hu]
        refine ⟨.bool true, ?_, .bool _⟩
        rw [Sem.run_bind, hg, Result.andThen_ok]
        exact (run_eql_as w (he 9999) (fun _ _ e => by cases e) (fun _ _ e => by cases e) (fun _ _ _ e => by cases e) (fun _ e => by cases e)).1
      · rename_i hu
        injection h with h; subst h
        have he : ∀ d, (Op.equalIn (d + 1) t .nilIface .nilIface).run P w = .ok true w := fun d => by simp [Op.equalIn, run_underlying hu]
        refine ⟨.bool false, ?_, .bool _⟩
        rw [Sem.run_bind, hg, Result.andThen_ok]
        exact (run_eql_as w (he 9999) (fun _ _ e => by cases e) (fun _ _ e => by cases e) (fun _ _ _ e => by cases e) (fun _ e => by cases e)).2
      · cases h
    · cases h
  · -- by '=='
    have hp : ∀ b, eqA P t x y = some b → (eqGuard op t xo yo x' y').run P w = .ok () w ∧ (binOp .eql t x' y').run P w = .ok (.bool b) w ∧ (binOp .neq t x' y').run P w = .ok (.bool (!b)) w := by
      intro b hb
      have he := eqA_sound hb hx hy w
      refine ⟨eqGuard_plain _ _ _ _ ?_ ?_ w, run_eql_as w he ?_ ?_ ?_ ?_⟩
      · intro hx0 hy0
        subst hx0; subst hy0
        cases hx; cases hy
        unfold eqA at hb
        split at hb <;> simp_all
      · intro xs ys hx0 hy0
        subst hx0; subst hy0
        cases hx; cases hy
        unfold eqA at hb
        split at hb <;> simp_all
      · intro k n e; subst e; cases hx; unfold eqA at hb; split at hb <;> simp_all
      · intro k n e; subst e; cases hx
      · intro k n m e; subst e; cases hx
      · intro s e; subst e; cases hx; unfold eqA at hb; split at hb <;> simp_all
    split at h
    · cases hb : eqA P t x y with
      | none => rw [hb] at h; cases h
      | some b =>
        rw [hb] at h
        simp only [Option.map_some, Option.some.injEq] at h
        subst h
        obtain ⟨g1, g2, _⟩ := hp b hb
        exact ⟨.bool b, by rw [Sem.run_bind, g1, Result.andThen_ok, g2], .bool b⟩
    · cases hb : eqA P t x y with
      | none => rw [hb] at h; cases h
      | some b =>
        rw [hb] at h
        simp only [Option.map_some, Option.some.injEq] at h
        subst h
        obtain ⟨g1, _, g2⟩ := hp b hb
        exact ⟨.bool (!b), by rw [Sem.run_bind, g1, Result.andThen_ok, g2], .bool (!b)⟩
    · cases h
end
end Go.Abs

/-
  What one operation does on the abstract heap it does in the model's world: (5) maps, the builtins, and the statement for every operation.
-/
namespace Go.Abs
noncomputable section
open Go Go.RowKit
set_option linter.unusedVariables false
set_option linter.unusedSimpArgs false

variable {P : Program} {base : Nat} {w0 w : World} {r : Ren} {H : Heap} {env : Env} {ρ : Operand → Value}

theorem mapElemA_some {t : TypeId} {k : IntKind} {e : TypeId} (h : mapElemA P t = some (k, e)) : ∃ kt, P.underlying t = some (.map kt e) ∧ P.underlying kt = some (.int k) := by
  unfold mapElemA at h
  split at h
  · rename_i kt e' hu
    split at h
    · rename_i kind hk; cases h; exact ⟨kt, hu, hk⟩
    · cases h
  · cases h

theorem Rel.amap (h : Rel base w0 r H w) {b : Nat} {L : Loc} {k : IntKind} {es : List (Int × Value)} (hb : r b = some L) (hg : H.get b = some (.amap k es)) :
    ∃ M clock, w.heap[L.B]? = some (.map M clock) ∧ base ≤ L.B ∧ MRel r k es M.toList := by
  obtain ⟨ob, hgo, hO⟩ := h.dom b L hb
  rw [hg] at hgo; cases hgo
  exact hO

theorem findNow_rel {k : IntKind} (n : Int) : ∀ (es : List (Int × Value)) (M : List MapEntry) (i : Nat), MRel r k es M →
    ∃ x, Instr.findNow (.int k) (.int k n) M i = some x ∧ (match findA n es i, x with
      | none, none => True
      | some (j, v), some (j', v') => j = j' ∧ i ≤ j ∧ j < i + es.length ∧ VRel r v v'
      | _, _ => False)
  | [], [], i, _ => ⟨none, rfl, trivial⟩
  | [], e :: M, i, h => by have := h.1; simp at this
  | x :: es, [], i, h => by have := h.1; simp at this
  | (m, v) :: es, e :: M, i, h => by
    obtain ⟨hk, hv⟩ := h.2 0 m v e (by simp) (by simp)
    have ht : MRel r k es M := ⟨by have := h.1; simpa using this, fun i n x e hx he => h.2 (i + 1) n x e (by simpa using hx) (by simpa using he)⟩
    simp only [Instr.findNow, hk, Instr.sameNow, if_true]
    by_cases hnm : n = m
    · subst hnm
      refine ⟨some (i, e.val), by simp, ?_⟩
      simp [findA]
      exact hv
    · have hb : (n == m) = false := by simpa using hnm
      rw [hb]
      obtain ⟨x, hx, hrel⟩ := findNow_rel n es M (i + 1) ht
      refine ⟨x, by simpa using hx, ?_⟩
      simp only [findA, hb, cond_false, Bool.false_eq_true, if_false]
      revert hrel
      cases findA n es (i + 1) with
      | none => cases x <;> simp
      | some p => obtain ⟨j, v2⟩ := p; cases x with
        | none => simp
        | some q => obtain ⟨j', v'⟩ := q; simp only [List.length_cons]; rintro ⟨rfl, h1, h2, h3⟩; exact ⟨rfl, by omega, by omega, h3⟩

theorem run_checkKey_int {kt : TypeId} {k : IntKind} (hk : P.underlying kt = some (.int k)) (b : Bool) (n : Int) (w : World) : ∀ d, (Instr.checkKey b (d + 1) kt (.int k n)).run P w = .ok () w := by
  intro d
  simp [Instr.checkKey, run_underlying hk]

theorem lookupA_sound {t : TypeId} {m m' : Option Nat} {k : IntKind} {n : Int} {ok : Bool} {v : Value} (h : lookupA P t H m k n ok = some v) (hR : Rel base w0 r H w) (hm : VRel r (.map m) (.map m')) :
    ∃ v', (Instr.lookup t (.map m') (.int k n) ok).run P w = .ok v' w ∧ VRel r v v' := by
  unfold lookupA at h
  split at h
  rotate_left
  · cases h
  rename_i kind e he
  obtain ⟨kt, hu, hk⟩ := mapElemA_some he
  split at h
  rotate_left
  · cases h
  rename_i hkk
  subst hkk
  have hpair : ∀ {a b : Value} (c : Bool), VRel r a b → VRel r (if ok then .tuple #[a, .bool c] else a) (if ok then .tuple #[b, .bool c] else b) := by
    intro a b c hab
    split
    · refine .tuple rfl (fun i x y hx hy => ?_)
      match i with
      | 0 => simp at hx hy; subst hx; subst hy; exact hab
      | 1 => simp at hx hy; subst hx; subst hy; exact .bool c
      | i + 2 => simp at hx
    · exact hab
  -- the entries
  have hents : ∃ es M, entsA H m k = some es ∧ MRel r k es M ∧
      (do let es ← match (Value.map m') with
            | .map none => pure #[]
            | .map (some r) => do
              let .map es _ ← getObj r | stuck "Lookup: map expected"
              pure es
            | _ => stuck "Lookup: map expected"
          pure es : Sem (Array MapEntry)).run P w = .ok M.toArray w := by
    cases hm with
    | mapNil => exact ⟨[], [], rfl, ⟨rfl, fun i n x e h => by simp at h⟩, rfl⟩
    | map hb =>
      rename_i b L
      simp only [entsA] at h ⊢
      cases hg : H.get b with
      | none => rw [hg] at h; cases h
      | some ob =>
        rw [hg] at h
        cases ob with
        | amap k' es =>
          simp only at h ⊢
          by_cases hk' : k' = k
          · subst hk'
            obtain ⟨M, clock, hM, _, hrel⟩ := hR.amap hb hg
            exact ⟨es, M.toList, by simp, hrel, by simp [getObj, Sem.run, hM]⟩
          · rw [if_neg hk'] at h; cases h
        | _ => cases h
  obtain ⟨es, M, he1, hrel, hrun⟩ := hents
  rw [he1] at h
  simp only at h
  obtain ⟨x, hx, hmatch⟩ := findNow_rel (r := r) (k := k) n es M 0 hrel
  have hlook : ∀ z, (match x with | some (_, v) => (pure (v, true) : Sem (Value × Bool)) | none => do pure (← zeroValue e, false)).run P w = .ok z w →
      (Instr.lookup t (.map m') (.int k n) ok).run P w = .ok (if ok then .tuple #[z.1, .bool z.2] else z.1) w := by
    intro z hz
    have hck := run_checkKey_int (P := P) hk M.toArray.isEmpty n w 9999
    simp only [Instr.lookup, Sem.run_bind, run_underlying hu, Result.andThen_ok]
    simp only [Sem.run_bind, Sem.run_pure] at hrun
    have : ∀ {α : Type} (A : Sem (Array MapEntry)) (f : Array MapEntry → Sem α) (hA : A.run P w = .ok M.toArray w), ((A.run P w).andThen fun a w' => (f a).run P w') = (f M.toArray).run P w := fun A f hA => by rw [hA]; rfl
    cases hm with
    | mapNil =>
      simp only [Sem.run_pure, Result.andThen_ok] at hrun ⊢
      injection hrun with hrun
      rw [← hrun] at hck
      have hM : M = [] := by simpa using hrun.symm
      subst hM
      simp only [hck, Result.andThen_ok, Instr.findKey, Sem.run_bind, run_underlying hk, hx, Sem.run_pure]
      cases x with
      | some q =>
        simp only [Sem.run_bind, Sem.run_pure, Result.andThen_ok] at hz ⊢
        injection hz with hz
        rw [← hz]
      | none =>
        simp only [Sem.run_bind, Sem.run_pure] at hz ⊢
        cases hzv : (zeroValue e).run P w with
        | ok a w' =>
          rw [hzv] at hz
          simp only [Result.andThen_ok] at hz ⊢
          injection hz with hz hw
          rw [← hz, ← hw]
        | halt a w' => rw [hzv] at hz; simp at hz
    | map hb =>
      rename_i b L
      simp only [Sem.run_bind, getObj, Sem.run] at hrun ⊢
      cases hh : w.heap[L.B]? with
      | none => rw [hh] at hrun; simp at hrun
      | some o =>
        cases o with
        | map es' clock =>
          rw [hh] at hrun
          simp only [Result.andThen_ok, Sem.run_pure, Sem.run_pure'] at hrun ⊢
          injection hrun with hrun
          subst hrun
          simp only [hck, Result.andThen_ok, Instr.findKey, Sem.run_bind, run_underlying hk, hx, Sem.run_pure]
          cases x with
          | some q =>
            simp only [Sem.run_bind, Sem.run_pure, Result.andThen_ok] at hz ⊢
            injection hz with hz
            rw [← hz]
          | none =>
            simp only [Sem.run_bind, Sem.run_pure] at hz ⊢
            cases hzv : (zeroValue e).run P w with
            | ok a w' =>
              rw [hzv] at hz
              simp only [Result.andThen_ok] at hz ⊢
              injection hz with hz hw
              rw [← hz, ← hw]
            | halt a w' => rw [hzv] at hz; simp at hz
        | _ => rw [hh] at hrun; simp at hrun
  cases hf : findA n es 0 with
  | some p =>
    obtain ⟨j, v0⟩ := p
    rw [hf] at h hmatch
    cases x with
    | none => exact hmatch.elim
    | some q =>
      obtain ⟨j', v'⟩ := q
      simp only at h hmatch
      injection h with h
      subst h
      exact ⟨_, hlook (v', true) rfl, hpair true hmatch.2.2.2⟩
  | none =>
    rw [hf] at h hmatch
    cases x with
    | some q => exact hmatch.elim
    | none =>
      simp only at h
      split at h
      · rename_i z n' hz
        obtain ⟨i, hi, hzz, hpure, _⟩ := zeroA_rel hz
        injection h with h
        subst h
        exact ⟨_, hlook (z, false) (by simp [run_zeroValue hi hzz]), hpair false (pureV_rel hpure r)⟩
      · cases h
end
end Go.Abs

/-
  What one operation does on the abstract heap it does in the model's world: (6) maps written, the builtins, calls.
-/
namespace Go.Abs
noncomputable section
open Go Go.RowKit
set_option linter.unusedVariables false
set_option linter.unusedSimpArgs false

variable {P : Program} {base : Nat} {w0 w : World} {r : Ren} {H : Heap} {env : Env} {ρ : Operand → Value}

theorem sameBits_int (k : IntKind) (n : Int) : Instr.sameBits 10000 (.int k n) (.int k n) = true := by
  simp [Instr.sameBits]

theorem run_setObj_map {g : Nat} {M : Array MapEntry} {c : Nat} (hg : w.heap[g]? = some (.map M c)) (o : Obj) : (setObj g o).run P w = .ok () { w with heap := w.heap.setIfInBounds g o } := by
  simp [setObj, Sem.run, hg]

theorem heap_set_same {g : Nat} {o o' : Obj} (hg : w.heap[g]? = some o) : ({ w with heap := w.heap.setIfInBounds g o' } : World).heap[g]? = some o' := by
  have := (Array.getElem?_eq_some_iff.1 hg).1
  simp [Array.getElem?_setIfInBounds, this]

theorem heap_set_other {g k : Nat} {o' : Obj} (h : k ≠ g) : ({ w with heap := w.heap.setIfInBounds g o' } : World).heap[k]? = w.heap[k]? := by
  simp only [Array.getElem?_setIfInBounds]
  rw [if_neg (fun e => h e.symm)]

theorem below_set {B g : Nat} (o' : Obj) (h : B ≤ g) : Below B w { w with heap := w.heap.setIfInBounds g o' } :=
  ⟨rfl, rfl, rfl, by simp, fun k hk => heap_set_other (by omega)⟩

theorem updateA_sound {t : TypeId} {b : Nat} {L : Loc} {k : IntKind} {n : Int} {v v' : Value} {H' : Heap} (h : updateA P t H b k n v = some H') (hR : Rel base w0 r H w) (hb : r b = some L) (hv : VRel r v v') :
    ∃ w', (Instr.mapUpdate t (.map (some L.B)) (.int k n) v').run P w = .ok () w' ∧ Rel base w0 r H' w' := by
  unfold updateA at h
  split at h
  rotate_left
  · cases h
  rename_i kind e k' es he hg
  obtain ⟨kt, hu, hk⟩ := mapElemA_some he
  split at h
  rotate_left
  · cases h
  rename_i hkk
  obtain ⟨hk1, hk2⟩ := hkk
  subst hk2
  subst hk1
  obtain ⟨M, clock, hM, hB, hrel⟩ := hR.amap hb hg
  obtain ⟨x, hx, hmatch⟩ := findNow_rel (r := r) (k := k) n es M.toList 0 hrel
  have hck := run_checkKey_int (P := P) hk false n w 9999
  have hget : (getObj L.B).run P w = .ok (.map M clock) w := by simp [getObj, Sem.run, hM]
  cases hf : findA n es 0 with
  | some p =>
    obtain ⟨j, v0⟩ := p
    rw [hf] at h hmatch
    cases x with
    | none => exact hmatch.elim
    | some q =>
      obtain ⟨j', w0'⟩ := q
      simp only at h hmatch
      obtain ⟨rfl, _, hj, _⟩ := hmatch
      injection h with h
      subst h
      have hjM : j < M.size := by have := hrel.1; simp at this; omega
      have hkey : (M[j]?.map (·.key)).getD (.int k n) = .int k n := by
        rw [Array.getElem?_eq_getElem hjM]
        have hjes : j < es.length := by omega
        have := hrel.2 j es[j].1 es[j].2 M[j] (by rw [List.getElem?_eq_getElem hjes]) (by simp [hjM])
        -- the key found is n
        have hn : es[j].1 = n := by
          have key : ∀ (l : List (Int × Value)) (i : Nat), findA n l i = some (j, v0) → i ≤ j ∧ ∃ u, l[j - i]? = some (n, u) := by
            intro l
            induction l with
            | nil => intro i h; cases h
            | cons a l ih =>
              intro i h
              obtain ⟨m, u⟩ := a
              simp only [findA] at h
              split at h
              · rename_i hnm
                injection h with h; injection h with h1 h2
                subst h1
                refine ⟨Nat.le_refl _, u, ?_⟩
                have : n = m := by simpa using hnm
                simp [this]
              · obtain ⟨h1, u', h2⟩ := ih (i + 1) h
                refine ⟨by omega, u', ?_⟩
                rw [show j - i = (j - (i + 1)) + 1 by omega]
                simpa using h2
          obtain ⟨_, u, hu'⟩ := key es 0 hf
          rw [Nat.sub_zero, List.getElem?_eq_getElem hjes] at hu'
          injection hu' with hu'
          rw [hu']
        simp only [Option.map_some, Option.getD_some]
        rw [this.1, hn]
      have hstays : (Instr.keyThatStays ((M[j]?.map (·.key)).getD (.int k n)) (.int k n)).run P w = .ok (.int k n) w := by
        rw [hkey]; simp only [Instr.keyThatStays, sameBits_int, if_true]; rfl
      refine ⟨{ w with heap := w.heap.setIfInBounds L.B (.map (M.modify j fun e => { e with key := .int k n, val := v' }) clock) }, ?_, ?_⟩
      · simp only [Instr.mapUpdate, Sem.run_bind, run_underlying hu, Result.andThen_ok, hget, hck, Instr.findKey, run_underlying hk, hx, Sem.run_pure, hstays, run_setObj_map hM]
      · refine hR.write hb hg rfl _ _ (below_set _ hB) (fun q hq => heap_set_other hq) ⟨_, clock, heap_set_same hM, hB, ?_⟩
        refine ⟨by have := hrel.1; simpa using this, fun i m x e hx he => ?_⟩
        simp only [List.getElem?_set] at hx
        simp only [Array.getElem?_toList, Array.getElem?_modify] at he
        by_cases hij : j = i
        · subst hij
          rw [if_pos rfl, if_pos (by omega)] at hx
          rw [if_pos rfl, Array.getElem?_eq_getElem hjM] at he
          simp only [Option.some.injEq, Prod.mk.injEq, Option.map_some] at hx he
          obtain ⟨rfl, rfl⟩ := hx
          subst he
          exact ⟨rfl, hv⟩
        · rw [if_neg hij] at hx
          rw [if_neg hij] at he
          exact hrel.2 i m x e hx (by simpa using he)
  | none =>
    rw [hf] at h hmatch
    cases x with
    | some q => exact hmatch.elim
    | none =>
      simp only at h
      injection h with h
      subst h
      refine ⟨{ w with heap := w.heap.setIfInBounds L.B (.map (M.push { key := .int k n, val := v', born := clock }) (clock + 1)) }, ?_, ?_⟩
      · simp only [Instr.mapUpdate, Sem.run_bind, run_underlying hu, Result.andThen_ok, hget, hck, Instr.findKey, run_underlying hk, hx, Sem.run_pure, run_setObj_map hM]
      · refine hR.write hb hg rfl _ _ (below_set _ hB) (fun q hq => heap_set_other hq) ⟨_, _, heap_set_same hM, hB, ?_⟩
        refine ⟨by have := hrel.1; simp at this ⊢; omega, fun i m x e hx he => ?_⟩
        have hl := hrel.1
        simp only [Array.toList_push] at he
        by_cases hi : i < es.length
        · rw [List.getElem?_append_left hi] at hx
          rw [List.getElem?_append_left (by omega)] at he
          exact hrel.2 i m x e hx he
        · rw [List.getElem?_append_right (by omega)] at hx
          rw [List.getElem?_append_right (by omega), ← hl] at he
          cases hc : i - es.length with
          | zero =>
            rw [hc] at hx he
            simp only [List.getElem?_cons_zero, Option.some.injEq, Prod.mk.injEq] at hx he
            obtain ⟨rfl, rfl⟩ := hx
            subst he
            exact ⟨rfl, hv⟩
          | succ q => rw [hc] at hx; simp at hx

theorem deleteA_sound {t ty : TypeId} {ts : Array TypeId} {b : Nat} {L : Loc} {k : IntKind} {n : Int} {H' : Heap} (h : deleteA P t H b k n = some H') (hR : Rel base w0 r H w) (hb : r b = some L) (ht : ts[0]? = some t) :
    ∃ w', (Builtin.delete_ ts ty #[.map (some L.B), .int k n]).run P w = .ok (.tuple #[]) w' ∧ Rel base w0 r H' w' := by
  unfold deleteA at h
  split at h
  rotate_left
  · cases h
  rename_i kind e k' es he hg
  obtain ⟨kt, hu, hk⟩ := mapElemA_some he
  split at h
  rotate_left
  · cases h
  rename_i hkk
  obtain ⟨hk1, hk2⟩ := hkk
  subst hk2
  subst hk1
  obtain ⟨M, clock, hM, hB, hrel⟩ := hR.amap hb hg
  obtain ⟨x, hx, hmatch⟩ := findNow_rel (r := r) (k := k) n es M.toList 0 hrel
  have hck := run_checkKey_int (P := P) hk M.isEmpty n w 9999
  have hget : (getObj L.B).run P w = .ok (.map M clock) w := by simp [getObj, Sem.run, hM]
  have hw : ∀ M' : Array MapEntry, ∀ es', MRel r k es' M'.toList → Rel base w0 r (H.set b (.amap k es')) { w with heap := w.heap.setIfInBounds L.B (.map M' clock) } := fun M' es' hr =>
    hR.write hb hg rfl _ _ (below_set _ hB) (fun q hq => heap_set_other hq) ⟨_, clock, heap_set_same hM, hB, hr⟩
  cases hf : findA n es 0 with
  | some p =>
    obtain ⟨j, v0⟩ := p
    rw [hf] at h hmatch
    cases x with
    | none => exact hmatch.elim
    | some q =>
      obtain ⟨j', w0'⟩ := q
      simp only at h hmatch
      obtain ⟨rfl, _, hj, _⟩ := hmatch
      injection h with h
      subst h
      have hjM : j < M.size := by have := hrel.1; simp at this; omega
      refine ⟨_, ?_, hw (M.eraseIdxIfInBounds j) _ ?_⟩
      · simp [Builtin.delete_, ht, Sem.run_bind, run_underlying hu, hget, hck, Instr.findKey, run_underlying hk, hx, run_setObj_map hM]
      · have hl := hrel.1
        simp only [Array.eraseIdxIfInBounds, hjM, dif_pos, Array.toList_eraseIdx]
        refine ⟨by simp [List.length_eraseIdx, hl], fun i m x e hx he => ?_⟩
        rw [List.getElem?_eraseIdx] at hx he
        split at hx
        · rename_i hi; rw [if_pos hi] at he; exact hrel.2 i m x e hx he
        · rename_i hi; rw [if_neg hi] at he; exact hrel.2 _ m x e hx he
  | none =>
    rw [hf] at h hmatch
    cases x with
    | some q => exact hmatch.elim
    | none =>
      simp only at h
      injection h with h
      subst h
      refine ⟨_, ?_, hw M _ hrel⟩
      simp [Builtin.delete_, ht, Sem.run_bind, run_underlying hu, hget, hck, Instr.findKey, run_underlying hk, hx, run_setObj_map hM]

theorem typeAssertA_sound {x x' v : Value} {xt a : TypeId} {ok : Bool} (h : typeAssertA P x a ok = some v) (hx : VRel r x x') (w : World) :
    ∃ v', (Instr.typeAssert x' xt a ok).run P w = .ok v' w ∧ VRel r v v' := by
  have hpair : ∀ {a b : Value} (c : Bool), VRel r a b → VRel r (.tuple #[a, .bool c]) (.tuple #[b, .bool c]) := by
    intro a b c hab
    refine .tuple rfl (fun i x y hx hy => ?_)
    match i with
    | 0 => simp at hx hy; subst hx; subst hy; exact hab
    | 1 => simp at hx hy; subst hx; subst hy; exact .bool c
    | i + 2 => simp at hx
  unfold typeAssertA at h
  split at h
  · cases h
  · rename_i d t v0 hni hu
    cases hx with
    | iface _ hv =>
      rename_i y
      have hd : ∀ ms, d ≠ .interface ms := fun ms e => by subst e; exact hni ms rfl
      split at h
      · rename_i hta
        injection h with h
        subst h
        refine ⟨if ok then .tuple #[y, .bool true] else y, ?_, ?_⟩
        · cases d with
          | interface ms => exact absurd rfl (hd ms)
          | _ => simp [Instr.typeAssert, run_underlying hu, hta]
        · split
          · exact hpair true hv
          · exact hv
      · rename_i hta
        split at h
        · rename_i hok
          split at h
          · rename_i z n hz
            obtain ⟨i, hi, hzz, hpure, _⟩ := zeroA_rel hz
            injection h with h
            subst h
            refine ⟨.tuple #[z, .bool false], ?_, hpair false (pureV_rel hpure r)⟩
            cases d with
            | interface ms => exact absurd rfl (hd ms)
            | _ => simp [Instr.typeAssert, run_underlying hu, hta, hok, run_zeroValue hi hzz]
          · cases h
        · cases h
  · rename_i d hni hu
    cases hx
    have hd : ∀ ms, d ≠ .interface ms := fun ms e => by subst e; exact hni ms rfl
    split at h
    · rename_i hok
      split at h
      · rename_i z n hz
        obtain ⟨i, hi, hzz, hpure, _⟩ := zeroA_rel hz
        injection h with h
        subst h
        refine ⟨.tuple #[z, .bool false], ?_, hpair false (pureV_rel hpure r)⟩
        cases d with
        | interface ms => exact absurd rfl (hd ms)
        | _ => simp [Instr.typeAssert, run_underlying hu, hok, run_zeroValue hi hzz]
      · cases h
    · cases h
  · cases h

theorem foldMin_sound {k : IntKind} : ∀ (xs ys : List Value) (a b : Int), foldMin k a xs = some b → LRel r xs ys → ∀ w, (ys.foldlM Builtin.min2 (.int k a)).run P w = .ok (.int k b) w
  | [], [], a, b, h, _, w => by simp only [foldMin, Option.some.injEq] at h; subst h; rfl
  | [], y :: ys, _, _, _, hl, _ => by have := hl.1; simp at this
  | x :: xs, [], _, _, _, hl, _ => by have := hl.1; simp at this
  | x :: xs, y :: ys, a, b, h, hl, w => by
    have hxy := hl.2 0 x y (by simp) (by simp)
    have ht : LRel r xs ys := ⟨by have := hl.1; simpa using this, fun i x y hx hy => hl.2 (i + 1) x y (by simpa using hx) (by simpa using hy)⟩
    unfold foldMin at h
    split at h
    · rename_i heq; cases heq
    · rename_i a' k' b' r' heq
      injection heq with e1 e2
      subst e1; subst e2
      cases hxy
      split at h
      · rename_i hk
        subst hk
        simp only [List.foldlM_cons, Builtin.min2, Sem.run_bind, Sem.run_pure, Result.andThen_ok]
        exact foldMin_sound _ ys _ b h ht w
      · cases h
    · cases h

theorem foldMax_sound {k : IntKind} : ∀ (xs ys : List Value) (a b : Int), foldMax k a xs = some b → LRel r xs ys → ∀ w, (ys.foldlM Builtin.max2 (.int k a)).run P w = .ok (.int k b) w
  | [], [], a, b, h, _, w => by simp only [foldMax, Option.some.injEq] at h; subst h; rfl
  | [], y :: ys, _, _, _, hl, _ => by have := hl.1; simp at this
  | x :: xs, [], _, _, _, hl, _ => by have := hl.1; simp at this
  | x :: xs, y :: ys, a, b, h, hl, w => by
    have hxy := hl.2 0 x y (by simp) (by simp)
    have ht : LRel r xs ys := ⟨by have := hl.1; simpa using this, fun i x y hx hy => hl.2 (i + 1) x y (by simpa using hx) (by simpa using hy)⟩
    unfold foldMax at h
    split at h
    · rename_i heq; cases heq
    · rename_i a' k' b' r' heq
      injection heq with e1 e2
      subst e1; subst e2
      cases hxy
      split at h
      · rename_i hk
        subst hk
        simp only [List.foldlM_cons, Builtin.max2, Sem.run_bind, Sem.run_pure, Result.andThen_ok]
        exact foldMax_sound _ ys _ b h ht w
      · cases h
    · cases h
end
end Go.Abs

/-
  What one operation does on the abstract heap it does in the model's world: (7) the statement for every operation.
-/
namespace Go.Abs
noncomputable section
open Go Go.RowKit
set_option linter.unusedVariables false
set_option linter.unusedSimpArgs false

variable {P : Program} {base : Nat} {w0 w : World} {r : Ren} {H : Heap} {env : Env} {ρ : Operand → Value}

theorem bodied_some {f : FuncId} (h : bodied P f = true) : ∃ fn c, P.funcs[f]? = some fn ∧ fn.body = some c ∧ (fn.name == "runtime.NumGoroutine") = false := by
  unfold bodied at h
  split at h
  · rename_i fn hf
    simp only [Bool.and_eq_true, bne_iff_ne, ne_eq] at h
    obtain ⟨h1, h2⟩ := h
    cases hb : fn.body with
    | none => rw [hb] at h2; cases h2
    | some c => exact ⟨fn, c, hf, hb, by simpa using h1⟩
  · cases h

theorem run_callFunc {f : FuncId} (h : bodied P f = true) (args : Array Value) (w : World) : (callFunc f args).run P w = .ok (.enter f args) w := by
  obtain ⟨fn, c, hf, hb, hn⟩ := bodied_some h
  simp only [callFunc, Sem.run_bind, run_program, Result.andThen_ok, hf]
  simp only [hn, hb]
  simp

theorem LRel.toArray_append {r : Ren} {xs ys zs : List Value} {us vs : Array Value} (h1 : LRel r xs us.toList) (h2 : LRel r ys vs.toList) : LRel r (xs ++ ys) (us ++ vs).toList := by
  simpa using h1.append h2

theorem VRel.func_inv {r : Ren} {f : FuncId} {xs cs : Array Value} {y : Value} (h : VRel r (.func (.func f) xs cs) y) : ∃ ys ds, y = .func (.func f) ys ds ∧ LRel r xs.toList ys.toList ∧ LRel r cs.toList ds.toList := by
  cases h with
  | func _ h1 h2 h3 h4 => exact ⟨_, _, rfl, ⟨by simpa using h1, fun i x y hx hy => h2 i x y (by simpa using hx) (by simpa using hy)⟩, ⟨by simpa using h3, fun i x y hx hy => h4 i x y (by simpa using hx) (by simpa using hy)⟩⟩

theorem Rel.loop (h : Rel base w0 r H w) {b : Nat} {L : Loc} {a : ALoop} (hb : r b = some L) (hg : H.get b = some (.loop a)) : ∃ c : Loop, w.heap[L.B]? = some (.loop c) ∧ base ≤ L.B ∧ c.state = a.state ∧ c.pending = a.pending ∧
    c.params = a.params ∧ c.assign = a.assign ∧ c.body = a.body ∧ c.tmps.size = a.nt ∧ c.fn < a.nf ∧ ERel r a.env c.tmps := by
  obtain ⟨ob, hgo, hO⟩ := h.dom b L hb
  rw [hg] at hgo; cases hgo
  exact hO

theorem callA_sound {o : Oper} {f : Operand} {fv : Value} {args : List Value} {as : Array Operand} {ts : Array TypeId} {res : ORes} (ho : o.op = .call { callee := .value f, args := as, argTypes := ts }) (h : callA P fv args H = some res) (hR : Rel base w0 r H w)
    (hf : VRel r fv (ρ f)) (ha : LRel r args (as.map ρ).toList) : OpRel P base w0 r H res H ((execOp ρ o).run P w) := by
  have hrun : (execOp ρ o).run P w = ((Deferred.ofValue (ρ f) (as.map ρ)).run P w).andThen fun d w' => (invoke d.target d.args).run P w' := by
    unfold execOp; simp only [ho, resolve, Sem.run_bind]
  rw [hrun]
  unfold callA at h
  split at h
  · rename_i g first captured
    split at h
    · rename_i hb
      cases h
      obtain ⟨ys, ds, hy, h1, h2⟩ := hf.func_inv
      rw [hy]
      simp only [Deferred.ofValue, Sem.run_pure, Result.andThen_ok, invoke, run_callFunc hb]
      refine ⟨_, w, rfl, ?_, hR, hb⟩
      simpa [List.append_assoc] using (h1.append ha).append h2
    · cases h
  · rename_i l _ _
    split at h
    · rename_i c hg
      split at h
      · rename_i hlen
        cases h
        generalize ρ f = y at hf
        cases hf with
        | yield hb =>
          rename_i L
          obtain ⟨cc, hcc, _, _, _, hpar, _⟩ := hR.loop hb hg
          have hsz : (as.map ρ).size = cc.params.size := by have := ha.1; rw [hpar, ← hlen, this]; simp
          refine ⟨L, as.map ρ, cc, w, ?_, hb, hcc, ha, hR⟩
          have : (getObj L.B).run P w = .ok (.loop cc) w := by simp [getObj, Sem.run, hcc]
          simp only [Deferred.ofValue, Sem.run_pure, Result.andThen_ok, invoke, Instr.yield, Instr.getLoop, Sem.run_bind, this]
          simp [hsz]
      · cases h
    · cases h
  · cases h

theorem opA_sound {o : Oper} {res : ORes} {H' : Heap} (h : opA P env o H = some (res, H')) (hR : Rel base w0 r H w) (hS : SRel r env ρ) : OpRel P base w0 r H res H' ((execOp ρ o).run P w) := by
  have mapv : ∀ {x : Option Value} {f : Value → ORes × Heap}, x.map f = some (res, H') → ∃ v, x = some v ∧ f v = (res, H') := fun {x f} hx => by
    cases x with
    | none => cases hx
    | some v => simp only [Option.map_some, Option.some.injEq] at hx; exact ⟨v, rfl, hx⟩
  unfold opA at h
  unfold execOp
  split at h
  · -- move
    rename_i x ho
    simp only [ho]
    obtain ⟨v, hv, hf⟩ := mapv h
    cases hf
    exact opRel_val hR (hS _ _ hv)
  · -- assign
    rename_i x ho
    simp only [ho]
    obtain ⟨v, hv, hf⟩ := mapv h
    cases hf
    exact opRel_val hR (hS _ _ hv)
  · -- pick
    rename_i c a b ho
    simp only [ho]
    split at h
    · rename_i t hc
      obtain ⟨v, hv, hf⟩ := mapv h
      cases hf
      have hb := hS _ _ hc
      generalize ρ c = cv at hb
      cases hb
      simp only [asBool, Sem.run_bind, Sem.run_pure, Result.andThen_ok]
      cases t with
      | true => exact opRel_val hR (hS _ _ hv)
      | false => exact opRel_val hR (hS _ _ hv)
    · cases h
  · -- alloc
    rename_i t ho
    simp only [ho]
    split at h
    · rename_i z n hz
      obtain ⟨i, hi, hzz, hpure, _⟩ := zeroA_rel hz
      split at h
      · simp only [newA, Option.map_some, Option.some.injEq, Prod.mk.injEq] at h
        obtain ⟨rfl, rfl⟩ := h
        obtain ⟨hR', hle⟩ := hR.newRow (pureV_rel hpure r).cells z.cells.size z.cells.size [] t (by simp)
        refine ⟨_, w.alloc (.cells z.cells t), .pointer (some ⟨w.heap.size, 0, none⟩), _, ?_, .inl rfl, hle, .ptr (Ren.add_self _ _ _), by simpa using hR'⟩
        simp [Instr.alloc, run_zeroValue hi hzz, newVar, newRow]
      · cases h
    · cases h
  · -- box
    rename_i t x ho
    simp only [ho]
    split at h
    · rename_i v hv
      split at h
      · simp only [newA, Option.map_some, Option.some.injEq, Prod.mk.injEq] at h
        obtain ⟨rfl, rfl⟩ := h
        have hvr := hS _ _ hv
        obtain ⟨hR', hle⟩ := hR.newRow hvr.cells v.cells.size v.cells.size [] t (by have := hvr.cells.1; simp at this; simp; omega)
        refine ⟨_, w.alloc (.cells (ρ x).cells t), .pointer (some ⟨w.heap.size, 0, none⟩), _, ?_, .inl rfl, hle, .ptr (Ren.add_self _ _ _), by simpa using hR'⟩
        simp [Instr.box, newVar, newRow]
      · cases h
    · cases h
  · -- build
    rename_i t parts ho
    simp only [ho]
    split at h
    · rename_i ps zz hps hz
      obtain ⟨cs, hcs, hf⟩ : ∃ cs, P.built t ps = some cs ∧ (ORes.val (.agg cs), H) = (res, H') := by
        cases hb : P.built t ps with
        | none => rw [hb] at h; cases h
        | some cs => rw [hb] at h; simp only [Option.map_some, Option.some.injEq] at h; exact ⟨cs, rfl, h⟩
      cases hf
      obtain ⟨hl, hp⟩ := partsA_rel hS parts ps hps
      obtain ⟨us, hus, hrel⟩ := built_rel (t := t) ⟨zz.1, zz.2, hz⟩ hl hp hcs
      have hrun := run_build (P := P) w t (parts.map fun (i, x) => (i, ρ x)) us hus
      simp only [Sem.run_bind, hrun, Result.andThen_ok, Sem.run_pure]
      exact opRel_val hR (by simpa using hrel.agg)
    · cases h
  · -- buildSlice
    rename_i t len parts ho
    simp only [ho]
    split at h
    · rename_i ps hps
      obtain ⟨v, H1, hbs, hf⟩ : ∃ v H1, buildSliceA P t len ps H = some (v, H1) ∧ (ORes.val v, H1) = (res, H') := by
        cases hb : buildSliceA P t len ps H with
        | none => rw [hb] at h; cases h
        | some q => obtain ⟨v, H1⟩ := q; rw [hb] at h; simp only [Option.map_some, Option.some.injEq] at h; exact ⟨v, H1, rfl, h⟩
      cases hf
      obtain ⟨hl, hp⟩ := partsA_rel hS parts ps hps
      obtain ⟨v', w', r', hrun, hle, hv, hR'⟩ := buildSliceA_sound hbs hR hl hp
      simp only [Array.toArray_toList] at hrun
      simp only [Sem.run_bind, hrun, Result.andThen_ok, Sem.run_pure]
      exact ⟨_, w', v', r', rfl, .inl rfl, hle, hv, hR'⟩
    · cases h
  · -- load
    rename_i t a ho
    simp only [ho]
    split at h
    · rename_i p hp
      obtain ⟨v, hv, hf⟩ := mapv h
      cases hf
      have ha := hS _ _ hp
      generalize ρ a = av at ha
      cases ha with
      | ptr hb =>
        obtain ⟨v', hrun, hrel⟩ := loadA_sound hv hR hb
        simp only [Instr.loadAt, Instr.sureAddr, Sem.run_bind, Sem.run_pure, Result.andThen_ok, hrun]
        exact opRel_val hR hrel
    · cases h
  · -- store
    rename_i t a x ho
    simp only [ho]
    split at h
    · rename_i p v hp hv
      obtain ⟨H1, hs, hf⟩ : ∃ H1, storeA P t H p.block p.off v = some H1 ∧ (ORes.val undef, H1) = (res, H') := by
        cases hb : storeA P t H p.block p.off v with
        | none => rw [hb] at h; cases h
        | some q => rw [hb] at h; simp only [Option.map_some, Option.some.injEq] at h; exact ⟨q, rfl, h⟩
      cases hf
      have ha := hS _ _ hp
      have hx := hS _ _ hv
      generalize ρ a = av at ha
      cases ha with
      | ptr hb =>
        obtain ⟨w', hrun, hR'⟩ := storeA_sound hs hR hb hx
        simp only [Instr.storeAt, Instr.sureAddr, Sem.run_bind, Sem.run_pure, Result.andThen_ok, hrun]
        exact ⟨_, w', undef, r, rfl, .inr ⟨rfl, rfl⟩, Ren.le_refl r, .tuple rfl (fun i x y h => by simp at h), hR'⟩
    · cases h
  · -- nilCheck
    rename_i x ho
    simp only [ho]
    split at h
    · rename_i p hp
      cases h
      have ha := hS _ _ hp
      generalize ρ x = av at ha
      cases ha with
      | ptr hb => exact opRel_val hR (.ptr hb)
    · rename_i f fs cs hp
      cases h
      have ha := hS _ _ hp
      generalize ρ x = av at ha
      cases ha with
      | func _ h1 h2 h3 h4 => exact opRel_val hR (.func f h1 h2 h3 h4)
    · rename_i f fs cs hp
      cases h
      have ha := hS _ _ hp
      generalize ρ x = av at ha
      cases ha with
      | yield hb => exact opRel_val hR (.yield hb)
    · cases h
  · -- binOp
    rename_i op t x y yt ho
    simp only [ho]
    split at h
    · rename_i a b ha hb
      obtain ⟨v, hv, hf⟩ := mapv h
      cases hf
      obtain ⟨v', hrun, hrel⟩ := binA_sound (yt := yt) hv (hS _ _ ha) (hS _ _ hb) w
      simp only [Sem.run_bind] at hrun
      simp only [Sem.run_bind, hrun, Result.andThen_ok, Sem.run_pure]
      exact opRel_val hR hrel
    · cases h
  · -- unOp
    rename_i op t x ho
    simp only [ho]
    split at h
    · rename_i b hx
      cases h
      have ha := hS _ _ hx
      generalize ρ x = av at ha
      cases ha
      exact opRel_val hR (.bool _)
    · rename_i k n hx
      cases h
      have ha := hS _ _ hx
      generalize ρ x = av at ha
      cases ha
      exact opRel_val hR (.int k _)
    · cases h
  · -- convert
    rename_i s d x ho
    simp only [ho]
    split at h
    · rename_i ds k ki n hs hd hx
      cases h
      have ha := hS _ _ hx
      generalize ρ x = av at ha
      cases ha
      simp only [convert, Sem.run_bind, run_underlying hs, run_underlying hd, Result.andThen_ok]
      cases ds <;> exact opRel_val hR (.int k _)
    · rename_i b hs hd hx
      cases h
      have ha := hS _ _ hx
      generalize ρ x = av at ha
      cases ha
      simp only [convert, Sem.run_bind, run_underlying hs, run_underlying hd, Result.andThen_ok]
      exact opRel_val hR (.string b)
    · cases h
  · -- makeInterface
    rename_i t x ho
    simp only [ho]
    split at h
    · cases h
    · rename_i d v hni hu hx
      cases h
      have hd : ∀ ms, d ≠ .interface ms := fun ms e => by subst e; exact hni ms rfl
      have : (Instr.makeInterface t (ρ x)).run P w = .ok (.iface t (ρ x)) w := by
        cases d with
        | interface ms => exact absurd rfl (hd ms)
        | _ => simp [Instr.makeInterface, run_underlying hu]
      simp only [Sem.run_bind, this, Result.andThen_ok, Sem.run_pure]
      exact opRel_val hR (.iface t (hS _ _ hx))
    · cases h
  · -- makeFunc
    rename_i f first captured ho
    simp only [ho]
    split at h
    · rename_i xs ys h1 h2
      cases h
      have r1 := mapM_rel hS _ _ h1
      have r2 := mapM_rel hS _ _ h2
      refine opRel_val hR (.func f ?_ ?_ ?_ ?_)
      · have := r1.1; simpa using this
      · intro i x y hx hy; exact r1.2 i x y (by simpa using hx) (by simpa using hy)
      · have := r2.1; simpa using this
      · intro i x y hx hy; exact r2.2 i x y (by simpa using hx) (by simpa using hy)
    · cases h
  · -- makeMap, no size
    rename_i t ho
    simp only [ho]
    split at h
    · rename_i k e hm
      cases h
      obtain ⟨hR', hle⟩ := hR.alloc (.map #[] 0) (.amap k []) ⟨w.heap.size, 0, 0, 0⟩ rfl rfl ⟨#[], 0, heap_alloc_new w _, hR.le, rfl, fun i n x e h => by simp at h⟩
      refine ⟨_, w.alloc (.map #[] 0), .map (some w.heap.size), _, ?_, .inl rfl, hle, .map (Ren.add_self _ _ _), hR'⟩
      simp [Instr.makeMap]
    · cases h
  · -- makeMap, a size
    rename_i t x ho
    simp only [ho]
    split at h
    · rename_i k e ki n hm hx
      cases h
      obtain ⟨kt, hu, hk⟩ := mapElemA_some hm
      have ha := hS _ _ hx
      obtain ⟨hR', hle⟩ := hR.alloc (.map #[] 0) (.amap k []) ⟨w.heap.size, 0, 0, 0⟩ rfl rfl ⟨#[], 0, heap_alloc_new w _, hR.le, rfl, fun i n x e h => by simp at h⟩
      refine ⟨_, w.alloc (.map #[] 0), .map (some w.heap.size), _, ?_, .inl rfl, hle, .map (Ren.add_self _ _ _), hR'⟩
      have hq : ρ x = .int ki n := by
        generalize ρ x = av at ha
        cases ha
        rfl
      simp [Instr.makeMap, run_underlying hu, asInt, asIntOf, hq]
    · cases h
  · -- makeSlice
    rename_i t l c ho
    simp only [ho]
    split at h
    · rename_i kl l' kc c' hl hc
      obtain ⟨v, H1, hbs, hf⟩ : ∃ v H1, makeSliceA P t l' c' H = some (v, H1) ∧ (ORes.val v, H1) = (res, H') := by
        cases hb : makeSliceA P t l' c' H with
        | none => rw [hb] at h; cases h
        | some q => obtain ⟨v, H1⟩ := q; rw [hb] at h; simp only [Option.map_some, Option.some.injEq] at h; exact ⟨v, H1, rfl, h⟩
      cases hf
      have h1 := hS _ _ hl
      have h2 := hS _ _ hc
      generalize ρ l = lv at h1
      generalize ρ c = cv at h2
      cases h1
      cases h2
      obtain ⟨v', w', r', hrun, hle, hv, hR'⟩ := makeSliceA_sound (kl := kl) (kc := kc) hbs hR
      simp only [Sem.run_bind, hrun, Result.andThen_ok, Sem.run_pure]
      exact ⟨_, w', v', r', rfl, .inl rfl, hle, hv, hR'⟩
    · cases h
  · -- slice
    rename_i t x lo hi mx ho
    simp only [ho]
    split at h
    · rename_i v l hh m hx hl hhi hm
      obtain ⟨u, hu, hf⟩ := mapv h
      cases hf
      obtain ⟨v', hrun, hrel⟩ := sliceA_sound hu hR (hS _ _ hx) (optA_rel hS hl) (optA_rel hS hhi) (optA_rel hS hm)
      simp only [Sem.run_bind, hrun, Result.andThen_ok, Sem.run_pure]
      exact opRel_val hR hrel
    · cases h
  · -- fieldAddr
    rename_i s x f ho
    simp only [ho]
    split at h
    · rename_i p off t size hx hfd
      obtain ⟨fields, fd, i, hu, hfi, hi, rfl, rfl, rfl⟩ := fieldA_some hfd
      split at h
      · cases h
      · rename_i hz
        cases h
        have ha := hS _ _ hx
        generalize ρ x = av at ha
        cases ha with
        | ptr hb =>
          rename_i b o L
          have : (Instr.fieldAt s (.pointer (some ⟨L.B, L.o + o, none⟩)) f).run P w = .ok (.pointer (some ⟨L.B, L.o + (o + fd.offset), none⟩)) w := by
            simp [Instr.fieldAt, run_underlying hu, hfi, Instr.sureAddr, fieldPlace, run_sizeOf hi, hz, addr_add, Nat.add_assoc]
          simp only [Sem.run_bind, this, Result.andThen_ok, Sem.run_pure]
          exact opRel_val hR (.ptr hb)
    · cases h
  · -- field
    rename_i s x f ho
    simp only [ho]
    split at h
    · rename_i cs off t size hx hfd
      obtain ⟨fields, fd, i, hu, hfi, hi, rfl, rfl, rfl⟩ := fieldA_some hfd
      obtain ⟨v, hv, hf⟩ := mapv h
      cases hf
      have ha := hS _ _ hx
      have hcells := ha.cells
      generalize ρ x = av at ha hcells
      cases ha with
      | agg h1 h2 =>
        rename_i ds
        obtain ⟨v', hrun, hrel⟩ := partA_sound hv (ds := ds) (by simpa [Value.cells] using hcells) w
        have : (Instr.field s (.agg ds) f).run P w = .ok v' w := by
          simp [Instr.field, run_underlying hu, hfi, asAgg, hrun]
        simp only [Sem.run_bind, this, Result.andThen_ok, Sem.run_pure]
        exact opRel_val hR hrel
    · cases h
  · -- indexAddr
    rename_i t x ix ho
    simp only [ho]
    split at h
    · rename_i v k n hx hn
      obtain ⟨u, hu, hf⟩ := mapv h
      cases hf
      have h2 := hS _ _ hn
      generalize ρ ix = iv at h2
      cases h2
      obtain ⟨v', hrun, hrel⟩ := indexAddrA_sound (k := k) hu (hS _ _ hx) w
      simp only [Sem.run_bind, hrun, Result.andThen_ok, Sem.run_pure]
      exact opRel_val hR hrel
    · cases h
  · -- index
    rename_i t x ix ho
    simp only [ho]
    split at h
    · rename_i len e cs k n hu hx hn
      split at h
      · rename_i i hi
        split at h
        · rename_i hb
          obtain ⟨v, hv, hf⟩ := mapv h
          cases hf
          have ha := hS _ _ hx
          have h2 := hS _ _ hn
          have hcells := ha.cells
          generalize ρ x = av at ha hcells
          generalize ρ ix = iv at h2
          cases h2
          cases ha with
          | agg h1 h2 =>
            rename_i ds
            obtain ⟨v', hrun, hrel⟩ := partA_sound hv (ds := ds) (by simpa [Value.cells] using hcells) w
            have : (Instr.index t (.agg ds) (.int k n)).run P w = .ok v' w := by
              simp [Instr.index, asIntOf, run_underlying hu, hb, run_sizeOf hi, hrun]
            simp only [Sem.run_bind, this, Result.andThen_ok, Sem.run_pure]
            exact opRel_val hR hrel
        · cases h
      · cases h
    · cases h
  · -- lookup
    rename_i t x ix ok ho
    simp only [ho]
    split at h
    · rename_i m k n hx hn
      obtain ⟨v, hv, hf⟩ := mapv h
      cases hf
      have ha := hS _ _ hx
      have h2 := hS _ _ hn
      generalize ρ x = av at ha
      generalize ρ ix = iv at h2
      cases h2
      have : ∃ m', av = .map m' := by cases ha <;> exact ⟨_, rfl⟩
      obtain ⟨m', rfl⟩ := this
      obtain ⟨v', hrun, hrel⟩ := lookupA_sound hv hR ha
      simp only [Sem.run_bind, hrun, Result.andThen_ok, Sem.run_pure]
      exact opRel_val hR hrel
    · cases h
  · -- mapUpdate
    rename_i t m k x ho
    simp only [ho]
    split at h
    · rename_i b kd n v hm hk hv
      obtain ⟨H1, hs, hf⟩ : ∃ H1, updateA P t H b kd n v = some H1 ∧ (ORes.val undef, H1) = (res, H') := by
        cases hb : updateA P t H b kd n v with
        | none => rw [hb] at h; cases h
        | some q => rw [hb] at h; simp only [Option.map_some, Option.some.injEq] at h; exact ⟨q, rfl, h⟩
      cases hf
      have ha := hS _ _ hm
      have h2 := hS _ _ hk
      have hx := hS _ _ hv
      generalize ρ m = mv at ha
      generalize ρ k = kv at h2
      cases h2
      cases ha with
      | map hb =>
        obtain ⟨w', hrun, hR'⟩ := updateA_sound hs hR hb hx
        simp only [Sem.run_bind, hrun, Result.andThen_ok, Sem.run_pure]
        exact ⟨_, w', undef, r, rfl, .inr ⟨rfl, rfl⟩, Ren.le_refl r, .tuple rfl (fun i x y h => by simp at h), hR'⟩
    · cases h
  · -- insert
    rename_i t m k x ho
    simp only [ho]
    split at h
    · rename_i b kd n v hm hk hv
      obtain ⟨H1, hs, hf⟩ : ∃ H1, updateA P t H b kd n v = some H1 ∧ (ORes.val undef, H1) = (res, H') := by
        cases hb : updateA P t H b kd n v with
        | none => rw [hb] at h; cases h
        | some q => rw [hb] at h; simp only [Option.map_some, Option.some.injEq] at h; exact ⟨q, rfl, h⟩
      cases hf
      have ha := hS _ _ hm
      have h2 := hS _ _ hk
      have hx := hS _ _ hv
      generalize ρ m = mv at ha
      generalize ρ k = kv at h2
      cases h2
      cases ha with
      | map hb =>
        obtain ⟨w', hrun, hR'⟩ := updateA_sound hs hR hb hx
        simp only [Sem.run_bind, hrun, Result.andThen_ok, Sem.run_pure]
        exact ⟨_, w', undef, r, rfl, .inr ⟨rfl, rfl⟩, Ren.le_refl r, .tuple rfl (fun i x y h => by simp at h), hR'⟩
    · cases h
  · -- typeAssert
    rename_i x xt asserted ok ho
    simp only [ho]
    split at h
    · rename_i v hx
      obtain ⟨u, hu, hf⟩ := mapv h
      cases hf
      obtain ⟨v', hrun, hrel⟩ := typeAssertA_sound (xt := xt) hu (hS _ _ hx) w
      simp only [Sem.run_bind, hrun, Result.andThen_ok, Sem.run_pure]
      exact opRel_val hR hrel
    · cases h
  · -- extract
    rename_i t ix ho
    simp only [ho]
    split at h
    · rename_i vs hx
      obtain ⟨u, hu, hf⟩ := mapv h
      cases hf
      have ha := hS _ _ hx
      generalize ρ t = av at ha
      cases ha with
      | tuple h1 h2 =>
        rename_i ys
        have hlt : ix < ys.size := by rw [← h1]; exact (Array.getElem?_eq_some_iff.1 hu).1
        have hy := Array.getElem?_eq_getElem hlt
        simp only [Instr.extract, hy, Sem.run_bind, Sem.run_pure, Result.andThen_ok]
        exact opRel_val hR (h2 ix _ _ hu hy)
    · cases h
  · -- call
    rename_i c ho
    split at h
    · rename_i args hargs
      have ha := mapM_rel hS _ _ hargs
      obtain ⟨callee, as, ts⟩ := c
      simp only at hargs ha h
      cases callee with
      | value f =>
        simp only at h
        split at h
        · rename_i fv hf
          cases hc : callA P fv args H with
          | none => rw [hc] at h; cases h
          | some res' =>
            rw [hc] at h
            simp only [Option.map_some, Option.some.injEq, Prod.mk.injEq] at h
            obtain ⟨rfl, rfl⟩ := h
            have := callA_sound (o := o) (ρ := ρ) ho hc hR (hS _ _ hf) (by simpa using ha)
            unfold execOp at this
            exact this
        · cases h
      | invoke x m => cases h
      | builtin b =>
        simp only at h
        simp only [ho, resolve, Sem.run_bind, Sem.run_pure, Result.andThen_ok, invoke]
        unfold builtinA at h
        split at h
        · -- len
          rename_i t x hts
          have hxx : ∃ x', (as.map ρ) = #[x'] ∧ VRel r x x' := by
            have hl := ha.1
            simp only [List.length_cons, List.length_nil, List.length_map, Array.length_toList] at hl
            have : ∃ x', as.toList.map ρ = [x'] := by
              cases hq : as.toList.map ρ with
              | nil => rw [hq] at ha; have := ha.1; simp at this
              | cons y ys => cases ys with
                | nil => exact ⟨y, rfl⟩
                | cons z zs => rw [hq] at ha; have := ha.1; simp at this
            obtain ⟨x', hx'⟩ := this
            refine ⟨x', ?_, ?_⟩
            · apply Array.ext'; simpa using hx'
            · rw [hx'] at ha; exact ha.2 0 x x' (by simp) (by simp)
          obtain ⟨x', hx', hrel⟩ := hxx
          have ht0 : ts[0]? = some t := by have : ts.toList[0]? = some t := by rw [hts]; rfl
                                           simpa using this
          rw [hx']
          simp only [builtin, Builtin.len_, ht0, Sem.run_bind]
          split at h
          · rename_i e a n cc hu
            cases h
            cases hrel <;> (simp [run_underlying hu]; exact opRel_val hR (.int _ _))
          · rename_i s hu
            cases h
            cases hrel
            simp [run_underlying hu]
            exact opRel_val hR (.int _ _)
          · rename_i n e _ hu
            cases h
            simp [run_underlying hu]
            exact opRel_val hR (.int _ _)
          · rename_i kk ee hu
            cases h
            cases hrel
            simp [run_underlying hu]
            exact opRel_val hR (.int _ _)
          · rename_i kk ee b hu
            split at h
            · rename_i kk2 es hg
              cases h
              cases hrel with
              | map hb =>
                rename_i L
                obtain ⟨M, clock, hM, _, hMr⟩ := hR.amap hb hg
                have : (getObj L.B).run P w = .ok (.map M clock) w := by simp [getObj, Sem.run, hM]
                simp [run_underlying hu, this]
                have hlen : es.length = M.size := by have := hMr.1; simpa using this
                rw [hlen]
                exact opRel_val hR (.int _ _)
            · cases h
          · cases h
        · -- cap
          rename_i t x hts
          have hxx : ∃ x', (as.map ρ) = #[x'] ∧ VRel r x x' := by
            have : ∃ x', as.toList.map ρ = [x'] := by
              cases hq : as.toList.map ρ with
              | nil => rw [hq] at ha; have := ha.1; simp at this
              | cons y ys => cases ys with
                | nil => exact ⟨y, rfl⟩
                | cons z zs => rw [hq] at ha; have := ha.1; simp at this
            obtain ⟨x', hx'⟩ := this
            refine ⟨x', ?_, ?_⟩
            · apply Array.ext'; simpa using hx'
            · rw [hx'] at ha; exact ha.2 0 x x' (by simp) (by simp)
          obtain ⟨x', hx', hrel⟩ := hxx
          have ht0 : ts[0]? = some t := by have : ts.toList[0]? = some t := by rw [hts]; rfl
                                           simpa using this
          rw [hx']
          simp only [builtin, Builtin.cap_, ht0, Sem.run_bind]
          split at h
          · rename_i e a n cc hu
            split at h
            · rename_i hk
              cases h
              cases hrel with
              | sliceNil => simp [run_underlying hu]; exact opRel_val hR (.int _ _)
              | sliceZ a => simp [run_underlying hu]; exact opRel_val hR (.int _ _)
              | slice hb ho hc =>
                have := hc.2.2.1 hk
                subst this
                simp [run_underlying hu]; exact opRel_val hR (.int _ _)
            · cases h
          · cases h
        · -- append
          rename_i t t' s x hts
          split at h
          · rename_i htt
            subst htt
            obtain ⟨v, H1, hbs, hf⟩ : ∃ v H1, appendA P t s x H = some (v, H1) ∧ (ORes.val v, H1) = (res, H') := by
              cases hb : appendA P t s x H with
              | none => rw [hb] at h; cases h
              | some q => obtain ⟨v, H1⟩ := q; rw [hb] at h; simp only [Option.map_some, Option.some.injEq] at h; exact ⟨v, H1, rfl, h⟩
            cases hf
            have hxx : ∃ s' x', (as.map ρ) = #[s', x'] ∧ VRel r s s' ∧ VRel r x x' := by
              have : ∃ s' x', as.toList.map ρ = [s', x'] := by
                cases hq : as.toList.map ρ with
                | nil => rw [hq] at ha; have := ha.1; simp at this
                | cons y ys => cases ys with
                  | nil => rw [hq] at ha; have := ha.1; simp at this
                  | cons z zs => cases zs with
                    | nil => exact ⟨y, z, rfl⟩
                    | cons u us => rw [hq] at ha; have := ha.1; simp at this
              obtain ⟨s', x', hx'⟩ := this
              refine ⟨s', x', ?_, ?_, ?_⟩
              · apply Array.ext'; simpa using hx'
              · rw [hx'] at ha; exact ha.2 0 s s' (by simp) (by simp)
              · rw [hx'] at ha; exact ha.2 1 x x' (by simp) (by simp)
            obtain ⟨s', x', hx', hs, hx⟩ := hxx
            have htt : ts = #[t, t] := by apply Array.ext'; simpa using hts
            obtain ⟨v', w', r', hrun, hle, hv, hR'⟩ := appendA_sound (ty := o.type) hbs hR hs hx
            rw [hx', htt]
            simp only [builtin, Sem.run_bind, hrun, Result.andThen_ok, Sem.run_pure]
            exact ⟨_, w', v', r', rfl, .inl rfl, hle, hv, hR'⟩
          · cases h
        · -- min
          rename_i k a rest
          cases hm : foldMin k a rest with
          | none => rw [hm] at h; cases h
          | some n =>
            rw [hm] at h
            simp only [Option.map_some, Option.some.injEq, Prod.mk.injEq] at h
            obtain ⟨rfl, rfl⟩ := h
            cases hq : as.toList.map ρ with
            | nil => rw [hq] at ha; have := ha.1; simp at this
            | cons y ys =>
              rw [hq] at ha
              have h0 := ha.2 0 (.int k a) y (by simp) (by simp)
              cases h0
              have ht : LRel r rest ys := ⟨by have := ha.1; simpa using this, fun i x y hx hy => ha.2 (i + 1) x y (by simpa using hx) (by simpa using hy)⟩
              have hrun := foldMin_sound (P := P) rest ys a n hm ht w
              have hq' : (as.map ρ).toList = .int k a :: ys := by simpa using hq
              simp only [builtin, Builtin.min_, hq', Sem.run_bind, hrun, Result.andThen_ok, Sem.run_pure]
              exact opRel_val hR (.int k n)
        · -- max
          rename_i k a rest
          cases hm : foldMax k a rest with
          | none => rw [hm] at h; cases h
          | some n =>
            rw [hm] at h
            simp only [Option.map_some, Option.some.injEq, Prod.mk.injEq] at h
            obtain ⟨rfl, rfl⟩ := h
            cases hq : as.toList.map ρ with
            | nil => rw [hq] at ha; have := ha.1; simp at this
            | cons y ys =>
              rw [hq] at ha
              have h0 := ha.2 0 (.int k a) y (by simp) (by simp)
              cases h0
              have ht : LRel r rest ys := ⟨by have := ha.1; simpa using this, fun i x y hx hy => ha.2 (i + 1) x y (by simpa using hx) (by simpa using hy)⟩
              have hrun := foldMax_sound (P := P) rest ys a n hm ht w
              have hq' : (as.map ρ).toList = .int k a :: ys := by simpa using hq
              simp only [builtin, Builtin.max_, hq', Sem.run_bind, hrun, Result.andThen_ok, Sem.run_pure]
              exact opRel_val hR (.int k n)
        · -- delete
          rename_i t t' b k n hts
          cases hd : deleteA P t H b k n with
          | none => rw [hd] at h; cases h
          | some H1 =>
            rw [hd] at h
            simp only [Option.map_some, Option.some.injEq, Prod.mk.injEq] at h
            obtain ⟨rfl, rfl⟩ := h
            have hxx : ∃ s' x', (as.map ρ) = #[s', x'] ∧ VRel r (.map (some b)) s' ∧ VRel r (.int k n) x' := by
              have : ∃ s' x', as.toList.map ρ = [s', x'] := by
                cases hq : as.toList.map ρ with
                | nil => rw [hq] at ha; have := ha.1; simp at this
                | cons y ys => cases ys with
                  | nil => rw [hq] at ha; have := ha.1; simp at this
                  | cons z zs => cases zs with
                    | nil => exact ⟨y, z, rfl⟩
                    | cons u us => rw [hq] at ha; have := ha.1; simp at this
              obtain ⟨s', x', hx'⟩ := this
              refine ⟨s', x', ?_, ?_, ?_⟩
              · apply Array.ext'; simpa using hx'
              · rw [hx'] at ha; exact ha.2 0 _ s' (by simp) (by simp)
              · rw [hx'] at ha; exact ha.2 1 _ x' (by simp) (by simp)
            obtain ⟨s', x', hx', hs, hx⟩ := hxx
            cases hx
            cases hs with
            | map hb =>
              rename_i L
              have ht0 : ts[0]? = some t := by have : ts.toList[0]? = some t := by rw [hts]; rfl
                                               simpa using this
              obtain ⟨w', hrun, hR'⟩ := deleteA_sound (ty := o.type) (ts := ts) hd hR hb ht0
              rw [hx']
              simp only [builtin, Sem.run_bind, hrun, Result.andThen_ok, Sem.run_pure]
              exact ⟨_, w', .tuple #[], r, rfl, .inl rfl, Ren.le_refl r, .tuple rfl (fun i x y h => by simp at h), hR'⟩
        · -- recover
          cases h
          simp only [builtin, Sem.run_pure]
          exact ⟨w, rfl, hR⟩
        · cases h
    · cases h
  · -- defer
    rename_i c ho
    obtain ⟨callee, as, ts⟩ := c
    split at h
    · rename_i f args hcallee hargs
      have ha := mapM_rel hS _ _ hargs
      simp only at hcallee hargs ha
      subst hcallee
      split at h
      · rename_i g first captured hf
        split at h
        · rename_i hb
          cases h
          obtain ⟨ys, ds, hy, h1, h2⟩ := (hS _ _ hf).func_inv
          simp only [ho, resolve, hy, Deferred.ofValue, Sem.run_bind, Sem.run_pure, Result.andThen_ok]
          refine ⟨ds, ys ++ as.map ρ, w, rfl, ?_, hR, hb⟩
          simpa [List.append_assoc] using (h1.append ha).append h2
        · cases h
      · cases h
    · cases h
  · -- panic
    rename_i x ho
    simp only [ho]
    split at h
    · rename_i t v hx
      cases h
      have ha := hS _ _ hx
      generalize ρ x = av at ha
      cases ha with
      | iface _ hv =>
        rename_i y
        simp only [Instr.panic, Sem.run_bind, run_goPanic, Result.andThen_halt]
        exact ⟨_, w, rfl, .iface t hv, hR⟩
    · cases h
  · cases h
end
end Go.Abs

/-
  Triples: code run on the abstract heap, whatever world it stands for.
-/
namespace Go.Abs
noncomputable section
open Go Go.RowKit
set_option linter.unusedVariables false
set_option linter.unusedSimpArgs false

inductive ADef where
  | fn (f : FuncId) (args : List Value)
  | mark (b : Nat)

inductive AExit where
  | normal
  | exit (id : Nat)
  | ret
  | panic (v : Value)

inductive CRes where
  | ret (v : Value)
  | pan (v : Value)

def XRel (r : Ren) : AExit → Exit → Prop
  | .normal, e => e = .normal
  | .exit id, e => e = .exit id
  | .ret, e => e = .ret
  | .panic v, e => ∃ v', e = .panic [{ v := v', recovered := false }] ∧ VRel r v v'

def CRel (r : Ren) : CRes → Ending → Prop
  | .ret v, e => ∃ v', e = .returned v' ∧ VRel r v v'
  | .pan v, e => ∃ v', e = .panicked [{ v := v', recovered := false }] ∧ VRel r v v'

def DRel (P : Program) (r : Ren) : List ADef → List Deferred → Prop
  | [], [] => True
  | .fn f args :: ds, d :: es => (∃ cap as, d = { target := .fn (.func f) cap, args := as } ∧ LRel r args (as ++ cap).toList ∧ bodied P f = true) ∧ DRel P r ds es
  | .mark b :: ds, d :: es => (∃ L, r b = some L ∧ d = { target := .collected L.B, args := #[] }) ∧ DRel P r ds es
  | _, _ => False

theorem XRel.mono {r r' : Ren} {x : AExit} {e : Exit} (h : XRel r x e) (hr : Ren.le r r') : XRel r' x e := by
  cases x with
  | panic v => obtain ⟨v', h1, h2⟩ := h; exact ⟨v', h1, h2.mono hr⟩
  | _ => exact h
theorem CRel.mono {r r' : Ren} {x : CRes} {e : Ending} (h : CRel r x e) (hr : Ren.le r r') : CRel r' x e := by
  cases x <;> (obtain ⟨v', h1, h2⟩ := h; exact ⟨v', h1, h2.mono hr⟩)
theorem DRel.mono {P : Program} {r r' : Ren} (hr : Ren.le r r') : ∀ {ds : List ADef} {es : List Deferred}, DRel P r ds es → DRel P r' ds es
  | [], [], h => h
  | [], _ :: _, h => h
  | .fn f args :: ds, d :: es, ⟨⟨cap, as, h1, h2, h3⟩, h⟩ => ⟨⟨cap, as, h1, h2.mono hr, h3⟩, DRel.mono hr h⟩
  | .mark b :: ds, d :: es, ⟨⟨L, h1, h2⟩, h⟩ => ⟨⟨L, hr _ _ h1, h2⟩, DRel.mono hr h⟩
  | .fn f args :: ds, [], h => h.elim
  | .mark b :: ds, [], h => h.elim
theorem ERel.mono {r r' : Ren} {env : Env} {t : Array Value} (h : ERel r env t) (hr : Ren.le r r') : ERel r' env t := fun i => (h i).mono hr

/-- The fence of a frame: of a function, or of a round. -/
def FR (P : Program) (rc : Option Nat) : Fence := { fn := fun f => f < P.funcs.size, depth := none, alive := false, round := rc }
theorem FR_round (P : Program) (rc : Option Nat) : (FR P rc).round = rc := rfl
theorem FR_depth (P : Program) (rc : Option Nat) : ¬ ((FR P rc).depth.isSome = true) := by simp [FR]
theorem FR_room (P : Program) (rc : Option Nat) (n : Nat) : (FR P rc).room n := fun d h => by cases h
theorem callsIn_FR {P : Program} {rc : Option Nat} {n m : Nat} {f : FuncId} {args : Array Value} {w : World} {R : Ending → World → Prop} (h : CallsIn (FR P none) n P f args w R) : CallsIn (FR P rc) m P f args w R :=
  ⟨h.1, fun cs _ => h.2 cs (FR_room P none _)⟩
theorem roundIn_FR {P : Program} {rc : Option Nat} {n m : Nat} {l : Nat} {f : FuncId} {tmps : Array Value} {x y : Code} {w : World} {R : Ending → World → Prop} (h : RoundIn (FR P none) n P l f tmps x y w R) : RoundIn (FR P rc) m P l f tmps x y w R :=
  ⟨h.1, fun c cs _ => h.2 c cs (FR_room P none _)⟩
theorem bodied_lt {P : Program} {f : FuncId} (h : bodied P f = true) : f < P.funcs.size := by
  obtain ⟨fn, c, hf, _, _⟩ := bodied_some h
  exact (Array.getElem?_eq_some_iff.1 hf).1

/-- What an operation would call is a function of the program's. -/
def aboutOk (P : Program) (env : Env) (o : Oper) : Bool :=
  match o.op with
  | .call c => match c.callee with
    | .builtin _ => true
    | .value f => match evA env f with
      | some (.func (.func g) _ _) => decide (g < P.funcs.size)
      | some _ => true
      | none => false
    | .invoke _ _ => false
  | _ => true

theorem aboutOk_sound {P : Program} {env : Env} {o : Oper} {r : Ren} {ρ : Operand → Value} {w : World} (h : aboutOk P env o = true) (hS : SRel r env ρ) : ∀ f, o.about P w ρ = some f → f < P.funcs.size := by
  intro f hf
  unfold Oper.about at hf
  unfold aboutOk at h
  split at h
  · rename_i c ho
    simp only [ho] at hf
    obtain ⟨callee, as, ts⟩ := c
    cases callee with
    | builtin b => simp [resolve, Target.leads] at hf
    | invoke x m => cases h
    | value g =>
      simp only at h
      split at h
      · rename_i g' fs cs hg
        obtain ⟨ys, zs, hy, _, _⟩ := (hS _ _ hg).func_inv
        simp [resolve, hy, Deferred.ofValue, Target.leads] at hf
        subst hf
        simpa using h
      · rename_i v hne hg
        have hv := hS _ _ hg
        simp only [resolve] at hf
        generalize ρ g = u at hv hf
        cases hv with
        | func f h1 h2 h3 h4 => exact absurd rfl (hne _ _ _)
        | _ => simp [Deferred.ofValue, Target.leads] at hf
      · cases h
  · rename_i hno
    split at hf
    · rename_i c ho; exact absurd ho (hno c)
    · cases hf

def RdRel (r : Ren) (rd rc : Option Nat) : Prop := (rd = none ∧ rc = none) ∨ ∃ l L, rd = some l ∧ r l = some L ∧ rc = some L.B
theorem RdRel.mono {r r' : Ren} {rd rc : Option Nat} (h : RdRel r rd rc) (hr : Ren.le r r') : RdRel r' rd rc := by
  rcases h with h | ⟨l, L, h1, h2, h3⟩
  · exact .inl h
  · exact .inr ⟨l, L, h1, hr _ _ h2, h3⟩

abbrev QCode := AExit → Env → List ADef → Heap → Prop

def Post (P : Program) (base : Nat) (w0 : World) (nt : Nat) (r : Ren) (Q : QCode) : Exit → Act → World → Prop := fun e a w =>
  ∃ r' x env ds H, Ren.le r r' ∧ Rel base w0 r' H w ∧ ERel r' env a.tmps ∧ a.tmps.size = nt ∧ DRel P r' ds a.defers ∧ XRel r' x e ∧ Q x env ds H

def CPost (base : Nat) (w0 : World) (r : Ren) (Q : CRes → Heap → Prop) : Ending → World → Prop := fun e w =>
  ∃ r' res H, Ren.le r r' ∧ Rel base w0 r' H w ∧ CRel r' res e ∧ Q res H

/-- Code, from an environment and a heap on. -/
def Tri (P : Program) (nt : Nat) (rd : Option Nat) (c : Code) (env : Env) (ds : List ADef) (H : Heap) (Q : QCode) : Prop :=
  ∀ base w0 r w a rc, Rel base w0 r H w → ERel r env a.tmps → a.tmps.size = nt → DRel P r ds a.defers → RdRel r rd rc → c.wpIn (FR P rc) 0 P (Post P base w0 nt r Q) a w

def TriOps (P : Program) (nt : Nat) (rd : Option Nat) (ops : Array Oper) (l : List Nat) (env : Env) (ds : List ADef) (H : Heap) (Q : QCode) : Prop :=
  ∀ base w0 r w a rc, Rel base w0 r H w → ERel r env a.tmps → a.tmps.size = nt → DRel P r ds a.defers → RdRel r rd rc → wpOpsIn (FR P rc) 0 P ops (Post P base w0 nt r Q) l a w

def TriCall (P : Program) (f : FuncId) (args : List Value) (H : Heap) (Q : CRes → Heap → Prop) : Prop :=
  bodied P f = true → ∀ base w0 r w (as : Array Value), Rel base w0 r H w → LRel r args as.toList → CallsIn (FR P none) 0 P f as w (CPost base w0 r Q)

def TriRound (P : Program) (l : Nat) (args : List Value) (H : Heap) (Q : CRes → Heap → Prop) : Prop :=
  ∀ base w0 r w (as : Array Value) L (c : Loop), Rel base w0 r H w → LRel r args as.toList → r l = some L → w.heap[L.B]? = some (.loop c) →
    RoundIn (FR P none) 0 P L.B c.fn ((c.params.zip as).foldl (fun tmps (t, a) => tmps.setIfInBounds t a) c.tmps) c.assign c.body w (CPost base w0 r Q)

theorem Post.mono {P : Program} {base : Nat} {w0 : World} {nt : Nat} {r r' : Ren} {Q Q' : QCode} (hr : Ren.le r r') (hQ : ∀ x env ds H, Q x env ds H → Q' x env ds H) {e : Exit} {a : Act} {w : World} (h : Post P base w0 nt r' Q e a w) : Post P base w0 nt r Q' e a w := by
  obtain ⟨r2, x, env, ds, H, h1, h2, h3, h4, h5, h6, h7⟩ := h
  exact ⟨r2, x, env, ds, H, Ren.le_trans hr h1, h2, h3, h4, h5, h6, hQ _ _ _ _ h7⟩

variable {P : Program} {nt : Nat} {rd : Option Nat} {env : Env} {ds : List ADef} {H : Heap} {Q : QCode}

theorem Tri.mono {c : Code} {Q' : QCode} (h : Tri P nt rd c env ds H Q) (hQ : ∀ x env ds H, Q x env ds H → Q' x env ds H) : Tri P nt rd c env ds H Q' :=
  fun base w0 r w a rc h1 h2 h3 h4 h5 => wpIn_mono (h base w0 r w a rc h1 h2 h3 h4 h5) fun _ _ _ hp => hp.mono (Ren.le_refl r) hQ

theorem TriCall.mono {f : FuncId} {args : List Value} {Q Q' : CRes → Heap → Prop} (h : TriCall P f args H Q) (hQ : ∀ x H, Q x H → Q' x H) : TriCall P f args H Q' :=
  fun hb base w0 r w as h1 h2 => (h hb base w0 r w as h1 h2).mono fun _ _ ⟨r', res, H', a, b, c, d⟩ => ⟨r', res, H', a, b, c, hQ _ _ d⟩

theorem tri_skip (h : Q .normal env ds H) : Tri P nt rd .skip env ds H Q :=
  fun base w0 r w a rc h1 h2 h3 h4 h5 => wpIn_skip ⟨r, .normal, env, ds, H, Ren.le_refl r, h1, h2, h3, h4, rfl, h⟩
theorem tri_label {l : Nat} (h : Q .normal env ds H) : Tri P nt rd (.label l) env ds H Q :=
  fun base w0 r w a rc h1 h2 h3 h4 h5 => wpIn_label ⟨r, .normal, env, ds, H, Ren.le_refl r, h1, h2, h3, h4, rfl, h⟩
theorem tri_exit {id : Nat} (h : Q (.exit id) env ds H) : Tri P nt rd (.exit id) env ds H Q :=
  fun base w0 r w a rc h1 h2 h3 h4 h5 => wpIn_exit ⟨r, .exit id, env, ds, H, Ren.le_refl r, h1, h2, h3, h4, rfl, h⟩
theorem tri_ret (h : Q .ret env ds H) : Tri P nt rd .ret env ds H Q :=
  fun base w0 r w a rc h1 h2 h3 h4 h5 => wpIn_ret ⟨r, .ret, env, ds, H, Ren.le_refl r, h1, h2, h3, h4, rfl, h⟩

def seqQ (P : Program) (nt : Nat) (rd : Option Nat) (b : Code) (Q : QCode) : QCode := fun x env ds H => match x with
  | .normal => Tri P nt rd b env ds H Q
  | x => Q x env ds H

theorem tri_seq {a b : Code} (h : Tri P nt rd a env ds H (seqQ P nt rd b Q)) : Tri P nt rd (.seq a b) env ds H Q := by
  intro base w0 r w ac rc h1 h2 h3 h4 h5
  refine wpIn_seq (wpIn_mono (h base w0 r w ac rc h1 h2 h3 h4 h5) ?_)
  rintro e a' w' ⟨r', x, env', ds', H', g1, g2, g3, g4, g5, g6, g7⟩
  cases x with
  | normal =>
    obtain rfl : e = .normal := g6
    exact wpIn_mono (g7 base w0 r' w' a' rc g2 g3 g4 g5 (h5.mono g1)) fun _ _ _ hp => hp.mono g1 fun _ _ _ _ q => q
  | exit id => obtain rfl : e = .exit id := g6; exact ⟨r', .exit id, env', ds', H', g1, g2, g3, g4, g5, rfl, g7⟩
  | ret => obtain rfl : e = .ret := g6; exact ⟨r', .ret, env', ds', H', g1, g2, g3, g4, g5, rfl, g7⟩
  | panic v =>
    obtain ⟨v', rfl, hv⟩ := g6
    exact ⟨r', .panic v, env', ds', H', g1, g2, g3, g4, g5, ⟨v', rfl, hv⟩, g7⟩

theorem tri_cond {c : Operand} {x y : Code} {b : Bool} (hc : evA env c = some (.bool b)) (h : Tri P nt rd (if b then x else y) env ds H Q) : Tri P nt rd (.cond c x y) env ds H Q := by
  intro base w0 r w a rc h1 h2 h3 h4 h5
  have hb := h2.srel (a := a) c _ hc
  have : a.eval c = .bool b := by
    generalize a.eval c = v at hb
    cases hb; rfl
  exact wpIn_cond this (h base w0 r w a rc h1 h2 h3 h4 h5)

def blockQ (id : Nat) (Q : QCode) : QCode := fun x env ds H => match x with
  | .exit id' => if id' = id then Q .normal env ds H else Q (.exit id') env ds H
  | x => Q x env ds H

theorem tri_block {id : Nat} {c : Code} (h : Tri P nt rd c env ds H (blockQ id Q)) : Tri P nt rd (.block id c) env ds H Q := by
  intro base w0 r w a rc h1 h2 h3 h4 h5
  refine wpIn_block (wpIn_mono (h base w0 r w a rc h1 h2 h3 h4 h5) ?_)
  rintro e a' w' ⟨r', x, env', ds', H', g1, g2, g3, g4, g5, g6, g7⟩
  cases x with
  | normal => obtain rfl : e = .normal := g6; exact ⟨r', .normal, env', ds', H', g1, g2, g3, g4, g5, rfl, g7⟩
  | exit id' =>
    obtain rfl : e = .exit id' := g6
    simp only [Exit.inBlock]
    simp only [blockQ] at g7
    split
    · rename_i hid; rw [if_pos hid] at g7; exact ⟨r', .normal, env', ds', H', g1, g2, g3, g4, g5, rfl, g7⟩
    · rename_i hid; rw [if_neg hid] at g7; exact ⟨r', .exit id', env', ds', H', g1, g2, g3, g4, g5, rfl, g7⟩
  | ret => obtain rfl : e = .ret := g6; exact ⟨r', .ret, env', ds', H', g1, g2, g3, g4, g5, rfl, g7⟩
  | panic v =>
    obtain ⟨v', rfl, hv⟩ := g6
    exact ⟨r', .panic v, env', ds', H', g1, g2, g3, g4, g5, ⟨v', rfl, hv⟩, g7⟩

theorem stepR_scope {P : Program} {b : Frame} {a : Act} {k : List Item} {cs : List Frame} {w : World} {c : Code} : step P (lone (b.atR a (.code (.scope c) :: k)) cs w) = .next (lone (b.atR a (.code c :: .inScope c :: k)) cs w) :=
  step_lone_go (by simp [stepG, stepG.exec, Frame.atR])
theorem stepR_inScope {P : Program} {b : Frame} {a : Act} {k : List Item} {cs : List Frame} {w : World} {c : Code} : step P (lone (b.atR a (.inScope c :: k)) cs w) = .next (lone (b.atR a k) cs w) :=
  step_lone_go (by simp [stepG, stepG.exec, Frame.atR])

theorem wpIn_scope {F : Fence} {n : Nat} {P : Program} {Q : Exit → Act → World → Prop} {a : Act} {w : World} {c : Code} (h : c.wpIn F n P (Exit.noGoto Q) a w) : (Code.scope c).wpIn F n P Q a w := by
  intro b k cs hro hb hr
  have h0 : (lone (b.atR a (.code (.scope c) :: k)) cs w).fenced P F := fenced_calm hb hr rfl
  obtain ⟨e, a₁, w₁, hq, harr⟩ := h b (.inScope c :: k) cs hro hb hr
  cases e with
  | normal => exact ⟨.normal, a₁, w₁, hq, .head h0 stepR_scope (StepsIn.trans harr (.one (fenced_calm hb hr rfl) stepR_inScope))⟩
  | exit id => exact ⟨.exit id, a₁, w₁, hq, fun k' hk => .head h0 stepR_scope (harr.1 k' (by simp [exitTo, hk])), fun hr' hk => let ⟨k₁, h1, h2⟩ := harr.2 hr' (by simp [exitTo, hk]); ⟨k₁, h1, .head h0 stepR_scope h2⟩⟩
  | goto l => exact hq.elim
  | ret => exact ⟨_, a₁, w₁, hq, .of_steps (.one h0 stepR_scope) harr⟩
  | panic ch => exact ⟨_, a₁, w₁, hq, .of_steps (.one h0 stepR_scope) harr⟩
  | outgrown => exact ⟨_, a₁, w₁, hq, .of_steps (.one h0 stepR_scope) harr⟩

theorem tri_scope {c : Code} (h : Tri P nt rd c env ds H Q) : Tri P nt rd (.scope c) env ds H Q := by
  intro base w0 r w a rc h1 h2 h3 h4 h5
  refine wpIn_scope (wpIn_mono (h base w0 r w a rc h1 h2 h3 h4 h5) ?_)
  rintro e a' w' ⟨r', x, env', ds', H', g1, g2, g3, g4, g5, g6, g7⟩
  cases x with
  | normal => obtain rfl : e = .normal := g6; exact ⟨r', .normal, env', ds', H', g1, g2, g3, g4, g5, rfl, g7⟩
  | exit id' => obtain rfl : e = .exit id' := g6; exact ⟨r', .exit id', env', ds', H', g1, g2, g3, g4, g5, rfl, g7⟩
  | ret => obtain rfl : e = .ret := g6; exact ⟨r', .ret, env', ds', H', g1, g2, g3, g4, g5, rfl, g7⟩
  | panic v => obtain ⟨v', rfl, hv⟩ := g6; exact ⟨r', .panic v, env', ds', H', g1, g2, g3, g4, g5, ⟨v', rfl, hv⟩, g7⟩

/-- A loop, round by round. -/
def roundsQ (P : Program) (nt : Nat) (rd : Option Nat) (c : Code) (Q : QCode) : Nat → Env → List ADef → Heap → Prop
  | 0, _, _, _ => False
  | m + 1, env, ds, H => Tri P nt rd c env ds H (fun x env ds H => match x with
    | .normal => roundsQ P nt rd c Q m env ds H
    | x => Q x env ds H)

theorem tri_loop {c : Code} (m : Nat) (h : roundsQ P nt rd c Q m env ds H) : Tri P nt rd (.loop c) env ds H Q := by
  intro base w0 r w a rc h1 h2 h3 h4 h5
  refine wpIn_loop_rounds m ?_
  induction m generalizing env ds H r w a with
  | zero => exact h.elim
  | succ m ih =>
    rw [roundsIn_succ]
    refine wpIn_mono (h base w0 r w a rc h1 h2 h3 h4 h5) ?_
    rintro e a' w' ⟨r', x, env', ds', H', g1, g2, g3, g4, g5, g6, g7⟩
    cases x with
    | normal =>
      obtain rfl : e = .normal := g6
      have := ih g7 r' w' a' g2 g3 g4 g5 (h5.mono g1)
      -- the post, from r on
      have hm : ∀ m (a : Act) (w : World), Code.roundsIn (FR P rc) 0 P c (Post P base w0 nt r' Q) m a w → Code.roundsIn (FR P rc) 0 P c (Post P base w0 nt r Q) m a w := by
        intro m
        induction m with
        | zero => intro a w h; exact h
        | succ m ihm =>
          intro a w h
          rw [roundsIn_succ] at h ⊢
          refine wpIn_mono h ?_
          intro e a w hp
          cases e with
          | normal => exact ihm a w hp
          | exit id => exact hp.mono g1 fun _ _ _ _ q => q
          | goto l => exact hp.mono g1 fun _ _ _ _ q => q
          | ret => exact hp.mono g1 fun _ _ _ _ q => q
          | panic ch => exact hp.mono g1 fun _ _ _ _ q => q
          | outgrown => exact hp.mono g1 fun _ _ _ _ q => q
      exact hm m a' w' this
    | exit id => obtain rfl : e = .exit id := g6; exact ⟨r', .exit id, env', ds', H', g1, g2, g3, g4, g5, rfl, g7⟩
    | ret => obtain rfl : e = .ret := g6; exact ⟨r', .ret, env', ds', H', g1, g2, g3, g4, g5, rfl, g7⟩
    | panic v =>
      obtain ⟨v', rfl, hv⟩ := g6
      exact ⟨r', .panic v, env', ds', H', g1, g2, g3, g4, g5, ⟨v', rfl, hv⟩, g7⟩

theorem tri_region {id : Nat} {ops : Array Oper} (h : TriOps P nt rd ops (List.range ops.size) env ds H Q) : Tri P nt rd (.region id ops false) env ds H Q :=
  fun base w0 r w a rc h1 h2 h3 h4 h5 => wpIn_region (h base w0 r w a rc h1 h2 h3 h4 h5)

/-! ### Operations in a row -/
theorem triOps_nil {ops : Array Oper} (h : Q .normal env ds H) : TriOps P nt rd ops [] env ds H Q :=
  fun base w0 r w a rc h1 h2 h3 h4 h5 => ⟨r, .normal, env, ds, H, Ren.le_refl r, h1, h2, h3, h4, rfl, h⟩

/-- What an operation's guard says. -/
def guardA (ops : Array Oper) (env : Env) (o : Oper) : Bool :=
  match o.guard with
  | none => true
  | some (j, want) => match (ops[j]?).bind (·.dst) with
    | some t => match env.val t with
      | .bool b => b == want
      | _ => false
    | none => false

theorem guardA_rel {ops : Array Oper} {o : Oper} {r : Ren} {a : Act} (h : ERel r env a.tmps) : Region.wanted o (yielded ops a.tmps) = guardA ops env o := by
  unfold Region.wanted guardA
  cases o.guard with
  | none => rfl
  | some jw =>
    obtain ⟨j, want⟩ := jw
    simp only [yielded]
    cases hj : (ops[j]?).bind (·.dst) with
    | none => simp
    | some t =>
      simp only [Option.bind_some]
      have ht := h t
      rw [Array.getD_eq_getD_getElem?] at ht
      cases hg : a.tmps[t]? with
      | none =>
        rw [hg] at ht
        simp only [Option.getD_none] at ht
        generalize env.val t = v at ht
        cases ht; rfl
      | some u =>
        rw [hg] at ht
        simp only [Option.getD_some] at ht
        generalize env.val t = v at ht
        cases ht <;> rfl

def putA (env : Env) (dst : Option Tmp) (v : Value) : Env := match dst with
  | some d => Tr.set env d v
  | none => env

def dstOk (nt : Nat) (dst : Option Tmp) : Bool := match dst with
  | some d => decide (d < nt)
  | none => true

theorem ERel.put {r : Ren} {a : Act} {dst : Option Tmp} {v v' : Value} (h : ERel r env a.tmps) (hs : a.tmps.size = nt) (hd : dstOk nt dst = true) (hv : VRel r v v') : ERel r (putA env dst v) (a.put dst v').tmps ∧ (a.put dst v').tmps.size = nt ∧ (a.put dst v').defers = a.defers := by
  cases dst with
  | none => exact ⟨h, hs, rfl⟩
  | some d =>
    simp only [dstOk, decide_eq_true_eq] at hd
    refine ⟨fun i => ?_, by simp [Act.put, hs], rfl⟩
    simp only [putA, Act.put, Env.val_set]
    rw [Array.getD_eq_getD_getElem?, Array.getElem?_setIfInBounds]
    by_cases hi : i = d
    · subst hi
      simp [hs, hd, hv]
    · rw [if_neg hi, if_neg (fun e => hi e.symm), ← Array.getD_eq_getD_getElem?]
      exact h i

theorem undef_rel (r : Ren) : VRel r undef undef := .tuple rfl (fun i x y h => by simp at h)

/-- The operation is left out. -/
theorem triOps_skip {ops : Array Oper} {i : Nat} {l : List Nat} {o : Oper} (ho : ops[i]? = some o) (hg : guardA ops env o = false) (hd : dstOk nt o.dst = true) (hab : aboutOk P env o = true) (h : TriOps P nt rd ops l (putA env o.dst undef) ds H Q) : TriOps P nt rd ops (i :: l) env ds H Q := by
  intro base w0 r w a rc h1 h2 h3 h4 h5
  unfold wpOpsIn
  simp only [ho]
  rw [guardA_rel h2, hg]
  simp only [Bool.false_eq_true, if_false]
  refine ⟨aboutOk_sound hab h2.srel, ?_⟩
  obtain ⟨e1, e2, e3⟩ := h2.put h3 hd (undef_rel r)
  exact h base w0 r w _ rc h1 e1 e2 (by rw [e3]; exact h4) h5

theorem uponIn_mono {F : Fence} {n : Nat} {o : Oper} {a : Act} {next next' : Act → World → Prop} {Q Q' : Exit → Act → World → Prop} (hn : ∀ a w, next a w → next' a w) (hQ : ∀ e a w, Q e a w → Q' e a w) {res : Result Next}
    (h : o.uponIn F n P a next Q res) : o.uponIn F n P a next' Q' res := by
  have hend : ∀ (e : Ending) (w : World), (match e with | .returned v => next (a.put o.dst v) w | .panicked chain => Q (.panic chain) a w | .outgrown => LetsOut Q) → (match e with | .returned v => next' (a.put o.dst v) w | .panicked chain => Q' (.panic chain) a w | .outgrown => LetsOut Q') := by
    intro e w h
    cases e with
    | returned v => exact hn _ _ h
    | panicked chain => exact hQ _ _ _ h
    | outgrown => obtain ⟨a, w, h⟩ := h; exact ⟨a, w, hQ _ _ _ h⟩
  unfold Oper.uponIn at h ⊢
  split at h
  · exact hn _ _ h
  · exact hn _ _ h
  · exact hn _ _ h
  · exact ⟨h.1, h.2.mono fun e w he => by have := hend e w (by cases e <;> exact he); cases e <;> exact this⟩
  · exact ⟨h.1, h.2.mono fun v w hv => hn _ _ hv⟩
  · exact ⟨h.1, h.2.mono fun e w he => by have := hend e w (by cases e <;> exact he); cases e <;> exact this⟩
  · exact hQ _ _ _ h
  · exact h.elim

theorem wpOpsIn_mono {F : Fence} {n : Nat} {ops : Array Oper} {Q Q' : Exit → Act → World → Prop} (hQ : ∀ e a w, Q e a w → Q' e a w) : ∀ (l : List Nat) (a : Act) (w : World), wpOpsIn F n P ops Q l a w → wpOpsIn F n P ops Q' l a w
  | [], a, w, h => hQ _ _ _ h
  | i :: l, a, w, h => by
    unfold wpOpsIn at h ⊢
    cases ho : ops[i]? with
    | none => simp only [ho] at h ⊢; exact wpOpsIn_mono hQ l a w h
    | some o =>
      simp only [ho] at h ⊢
      split at h
      · rename_i hw
        rw [if_pos hw]
        exact ⟨h.1, uponIn_mono (fun a w => wpOpsIn_mono hQ l a w) hQ h.2⟩
      · rename_i hw
        rw [if_neg hw]
        exact ⟨h.1, wpOpsIn_mono hQ l _ w h.2⟩

theorem post_ops {ops : Array Oper} {rc : Option Nat} {base : Nat} {w0 : World} {r r' : Ren} (hr : Ren.le r r') (l : List Nat) (a : Act) (w : World) (h : wpOpsIn (FR P rc) 0 P ops (Post P base w0 nt r' Q) l a w) : wpOpsIn (FR P rc) 0 P ops (Post P base w0 nt r Q) l a w :=
  wpOpsIn_mono (fun _ _ _ hp => hp.mono hr fun _ _ _ _ q => q) l a w h

theorem opA_about {o : Oper} {x : ORes × Heap} (h : opA P env o H = some x) : aboutOk P env o = true := by
  unfold aboutOk
  split
  · rename_i c ho
    obtain ⟨callee, as, ts⟩ := c
    cases callee with
    | builtin b => rfl
    | invoke x m =>
      simp only [opA, ho] at h
      split at h <;> cases h
    | value f =>
      simp only [opA, ho] at h
      split at h
      · split at h
        · rename_i fv hf
          simp only [hf]
          cases hc : callA P fv _ H with
          | none => rw [hc] at h; cases h
          | some res =>
            unfold callA at hc
            split at hc
            · split at hc
              · rename_i hb; simpa using bodied_lt hb
              · cases hc
            · rfl
            · cases hc
        · cases h
      · cases h
  · rfl

theorem triOps_val {ops : Array Oper} {i : Nat} {l : List Nat} {o : Oper} {v : Value} {H' : Heap} (ho : ops[i]? = some o) (hg : guardA ops env o = true) (hd : dstOk nt o.dst = true) (hop : opA P env o H = some (.val v, H'))
    (hnd : ∀ c, o.op ≠ .defer c) (h : TriOps P nt rd ops l (putA env o.dst v) ds H' Q) : TriOps P nt rd ops (i :: l) env ds H Q := by
  intro base w0 r w a rc h1 h2 h3 h4 h5
  unfold wpOpsIn
  simp only [ho]
  rw [guardA_rel h2, hg]
  simp only [if_true]
  refine ⟨aboutOk_sound (opA_about hop) h2.srel, ?_⟩
  rw [Oper.semAt_eq _ _ _ hnd]
  obtain ⟨x, w', v', r', hrun, hx, hle, hv, hR'⟩ := opA_sound hop h1 h2.srel
  rw [hrun]
  obtain ⟨e1, e2, e3⟩ := (h2.mono hle).put h3 hd hv
  have := h base w0 r' w' _ rc hR' e1 e2 (by rw [e3]; exact h4.mono hle) (h5.mono hle)
  rcases hx with rfl | ⟨rfl, rfl⟩
  · exact post_ops hle _ _ _ this
  · exact post_ops hle _ _ _ this

/-- A call of a Go function. -/
theorem triOps_call {ops : Array Oper} {i : Nat} {l : List Nat} {o : Oper} {f : FuncId} {args : List Value} {H' : Heap} (ho : ops[i]? = some o) (hg : guardA ops env o = true) (hd : dstOk nt o.dst = true) (hop : opA P env o H = some (.call f args, H'))
    (hnd : ∀ c, o.op ≠ .defer c) (h : TriCall P f args H' (fun res H2 => match res with
      | .ret v => TriOps P nt rd ops l (putA env o.dst v) ds H2 Q
      | .pan v => Q (.panic v) env ds H2)) : TriOps P nt rd ops (i :: l) env ds H Q := by
  intro base w0 r w a rc h1 h2 h3 h4 h5
  unfold wpOpsIn
  simp only [ho]
  rw [guardA_rel h2, hg]
  simp only [if_true]
  refine ⟨aboutOk_sound (opA_about hop) h2.srel, ?_⟩
  rw [Oper.semAt_eq _ _ _ hnd]
  obtain ⟨as, w', hrun, hl, hR', hb⟩ := opA_sound hop h1 h2.srel
  rw [hrun]
  refine ⟨fun hh => absurd hh (FR_depth P rc), callsIn_FR ((h hb base w0 r w' as hR' hl).mono ?_)⟩
  rintro e w2 ⟨r2, res, H2, g1, g2, g3, g4⟩
  cases res with
  | ret v =>
    obtain ⟨v', rfl, hv⟩ := g3
    obtain ⟨e1, e2, e3⟩ := (h2.mono g1).put h3 hd hv
    exact post_ops g1 _ _ _ (g4 base w0 r2 w2 _ rc g2 e1 e2 (by rw [e3]; exact h4.mono g1) (h5.mono g1))
  | pan v =>
    obtain ⟨v', rfl, hv⟩ := g3
    exact ⟨r2, .panic v, env, ds, H2, g1, g2, h2.mono g1, h3, h4.mono g1, ⟨v', rfl, hv⟩, g4⟩

/-- A round of a loop over a function. -/
theorem triOps_round {ops : Array Oper} {i : Nat} {l : List Nat} {o : Oper} {lp : Nat} {args : List Value} {H' : Heap} (ho : ops[i]? = some o) (hg : guardA ops env o = true) (hd : dstOk nt o.dst = true) (hop : opA P env o H = some (.round lp args, H'))
    (hnd : ∀ c, o.op ≠ .defer c) (h : TriRound P lp args H' (fun res H2 => match res with
      | .ret v => TriOps P nt rd ops l (putA env o.dst v) ds H2 Q
      | .pan v => Q (.panic v) env ds H2)) : TriOps P nt rd ops (i :: l) env ds H Q := by
  intro base w0 r w a rc h1 h2 h3 h4 h5
  unfold wpOpsIn
  simp only [ho]
  rw [guardA_rel h2, hg]
  simp only [if_true]
  refine ⟨aboutOk_sound (opA_about hop) h2.srel, ?_⟩
  rw [Oper.semAt_eq _ _ _ hnd]
  obtain ⟨L, as, c, w', hrun, hL, hc, hl, hR'⟩ := opA_sound hop h1 h2.srel
  rw [hrun]
  refine ⟨fun hh => absurd hh (FR_depth P rc), (roundIn_FR (h base w0 r w' as L c hR' hl hL hc)).mono ?_⟩
  rintro e w2 ⟨r2, res, H2, g1, g2, g3, g4⟩
  cases res with
  | ret v =>
    obtain ⟨v', rfl, hv⟩ := g3
    obtain ⟨e1, e2, e3⟩ := (h2.mono g1).put h3 hd hv
    exact post_ops g1 _ _ _ (g4 base w0 r2 w2 _ rc g2 e1 e2 (by rw [e3]; exact h4.mono g1) (h5.mono g1))
  | pan v =>
    obtain ⟨v', rfl, hv⟩ := g3
    exact ⟨r2, .panic v, env, ds, H2, g1, g2, h2.mono g1, h3, h4.mono g1, ⟨v', rfl, hv⟩, g4⟩

theorem triOps_panic {ops : Array Oper} {i : Nat} {l : List Nat} {o : Oper} {v : Value} {H' : Heap} (ho : ops[i]? = some o) (hg : guardA ops env o = true) (hop : opA P env o H = some (.panic v, H'))
    (hnd : ∀ c, o.op ≠ .defer c) (h : Q (.panic v) env ds H') : TriOps P nt rd ops (i :: l) env ds H Q := by
  intro base w0 r w a rc h1 h2 h3 h4 h5
  unfold wpOpsIn
  simp only [ho]
  rw [guardA_rel h2, hg]
  simp only [if_true]
  refine ⟨aboutOk_sound (opA_about hop) h2.srel, ?_⟩
  rw [Oper.semAt_eq _ _ _ hnd]
  obtain ⟨v', w', hrun, hv, hR'⟩ := opA_sound hop h1 h2.srel
  rw [hrun]
  exact ⟨r, .panic v, env, ds, H', Ren.le_refl r, hR', h2, h3, h4, ⟨v', rfl, hv⟩, h⟩

theorem triOps_defer {ops : Array Oper} {i : Nat} {l : List Nat} {o : Oper} {f : FuncId} {args : List Value} {H' : Heap} (ho : ops[i]? = some o) (hg : guardA ops env o = true) (hd : dstOk nt o.dst = true) (hop : opA P env o H = some (.defer f args, H'))
    (hrd : rd = none) (h : TriOps P nt rd ops l (putA env o.dst undef) (.fn f args :: ds) H' Q) : TriOps P nt rd ops (i :: l) env ds H Q := by
  intro base w0 r w a rc h1 h2 h3 h4 h5
  unfold wpOpsIn
  simp only [ho]
  rw [guardA_rel h2, hg]
  simp only [if_true]
  refine ⟨aboutOk_sound (opA_about hop) h2.srel, ?_⟩
  have hrc : rc = none := by
    rcases h5 with ⟨_, h⟩ | ⟨_, _, h, _⟩
    · exact h
    · rw [hrd] at h; cases h
  subst hrc
  rw [FR_round, Oper.semAt_none]
  obtain ⟨cap, as, w', hrun, hl, hR', hb⟩ := opA_sound hop h1 h2.srel
  rw [hrun]
  obtain ⟨e1, e2, e3⟩ := ERel.put (a := { a with defers := { target := .fn (.func f) cap, args := as } :: a.defers }) h2 h3 hd (undef_rel r)
  refine h base w0 r w' _ none hR' e1 e2 ?_ h5
  rw [e3]
  exact ⟨⟨cap, as, rfl, hl, hb⟩, h4⟩
end
end Go.Abs

/-
  Triples: functions, with what they defer; functions that are deferred and recover.
-/
namespace Go.Abs
noncomputable section
open Go Go.RowKit
set_option linter.unusedVariables false
set_option linter.unusedSimpArgs false

variable {P : Program} {nt : Nat} {rd : Option Nat} {env : Env} {ds : List ADef} {H : Heap} {Q : QCode}

/-- What goes on in a frame that is left: it returns, panics, or has panicked and has been recovered. -/
inductive PM where
  | ret
  | pan (v : Value)
  | recd (v : Value)

def PMRel (r : Ren) : PM → FrameMode → Prop
  | .ret, u => u = .returning
  | .pan v, u => ∃ v', u = .panicking [{ v := v', recovered := false }] ∧ VRel r v v'
  | .recd v, u => ∃ v', u = .panicking [{ v := v', recovered := true }] ∧ VRel r v v'
theorem PMRel.mono {r r' : Ren} {p : PM} {u : FrameMode} (h : PMRel r p u) (hr : Ren.le r r') : PMRel r' p u := by
  cases p with
  | ret => exact h
  | pan v => obtain ⟨v', h1, h2⟩ := h; exact ⟨v', h1, h2.mono hr⟩
  | recd v => obtain ⟨v', h1, h2⟩ := h; exact ⟨v', h1, h2.mono hr⟩
theorem PMRel.run {r : Ren} {p : PM} {u : FrameMode} (h : PMRel r p u) : u ≠ .run := by
  cases p with
  | ret => intro e; rw [e] at h; cases h
  | pan v => obtain ⟨v', rfl, h2⟩ := h; intro e; cases e
  | recd v => obtain ⟨v', rfl, h2⟩ := h; intro e; cases e
def PM.settle : PM → PM
  | .recd _ => .ret
  | p => p
theorem PMRel.settle {r : Ren} {p : PM} {u : FrameMode} (h : PMRel r p u) : PMRel r p.settle (Go.settle u) := by
  cases p with
  | ret => subst h; rfl
  | pan v => obtain ⟨v', rfl, h2⟩ := h; exact ⟨v', rfl, h2⟩
  | recd v => obtain ⟨v', rfl, h2⟩ := h; rfl

/-! ### Results -/
def resultA (P : Program) (env : Env) (H : Heap) : ResultVar → Option Value
  | .tmp t => some (env.val t)
  | .cell a t => match env.val a with
    | .pointer (some p) => loadA P t H p.block p.off
    | _ => none

def resultsA (P : Program) (fn : Func) (env : Env) (H : Heap) : Option Value :=
  match fn.results.toList.mapM (resultA P env H) with
  | some [v] => some v
  | some vs => some (.tuple vs.toArray)
  | none => none

def resS (tmps : Array Value) (x : ResultVar) : Sem Value := match x with
  | .tmp t => pure (tmps.getD t undef)
  | .cell a t => do loadVar t (← asAddr (tmps.getD a undef))

theorem resultA_sound {base : Nat} {w0 w : World} {r : Ren} {tmps : Array Value} (hR : Rel base w0 r H w) (hE : ERel r env tmps) {x : ResultVar} {v : Value} (h : resultA P env H x = some v) :
    ∃ v', (resS tmps x).run P w = .ok v' w ∧ VRel r v v' := by
  cases x with
  | tmp t => simp only [resultA, Option.some.injEq] at h; subst h; exact ⟨_, rfl, hE t⟩
  | cell a t =>
    simp only [resultA] at h
    split at h
    · rename_i p hp
      have ha := hE a
      rw [hp] at ha
      simp only [resS]
      generalize tmps.getD a undef = u at ha
      cases ha with
      | ptr hb =>
        obtain ⟨v', hrun, hv⟩ := loadA_sound h hR hb
        exact ⟨v', by simp only [asAddr, Sem.run_bind, Sem.run_pure, Result.andThen_ok, hrun], hv⟩
    · cases h

theorem resultsA_sound {base : Nat} {w0 w : World} {r : Ren} {tmps : Array Value} (hR : Rel base w0 r H w) (hE : ERel r env tmps) {fn : Func} {v : Value} (h : resultsA P fn env H = some v) :
    ∃ v', (results fn tmps).run P w = .ok v' w ∧ VRel r v v' := by
  have key : ∀ (l : List ResultVar) (vs : List Value), l.mapM (resultA P env H) = some vs → ∃ us, (l.mapM (resS tmps)).run P w = .ok us w ∧ LRel r vs us := by
    intro l
    induction l with
    | nil => intro vs h; simp at h; subst h; exact ⟨[], by simp, LRel.nil r⟩
    | cons x l ih =>
      intro vs h
      simp only [List.mapM_cons, Option.bind_eq_bind, Option.pure_def] at h
      cases hx : resultA P env H x with
      | none => rw [hx] at h; cases h
      | some v =>
        rw [hx] at h
        simp only [Option.bind_some] at h
        cases hl : l.mapM (resultA P env H) with
        | none => rw [hl] at h; cases h
        | some vs' =>
          rw [hl] at h
          simp only [Option.bind_some, Option.some.injEq] at h
          subst h
          obtain ⟨v', hv', hvr⟩ := resultA_sound hR hE hx
          obtain ⟨us, hus, hr⟩ := ih vs' hl
          refine ⟨v' :: us, ?_, LRel.cons hvr hr⟩
          simp only [List.mapM_cons, Sem.run_bind, hv', Result.andThen_ok, hus, Sem.run_pure]
  unfold resultsA at h
  cases hm : fn.results.toList.mapM (resultA P env H) with
  | none => rw [hm] at h; cases h
  | some vs =>
    rw [hm] at h
    obtain ⟨us, hus, hr⟩ := key _ vs hm
    have hrun : ∀ z : Value, (if h : us.toArray.size = 1 then us.toArray[0] else .tuple us.toArray) = z → (results fn tmps).run P w = .ok z w := by
      intro z hz
      have e : results fn tmps = (do let vs ← fn.results.mapM (resS tmps); pure (if h : vs.size = 1 then vs[0] else .tuple vs)) := rfl
      rw [e, Sem.run_bind, Array.mapM_eq_mapM_toList, Sem.run_map, hus]
      simp only [Result.andThen_ok, Sem.run_pure]
      rw [hz]
    have hlen := hr.1
    split at h
    · rename_i v0 heq
      injection heq with heq
      injection h with h
      subst h
      subst heq
      cases us with
      | nil => simp at hlen
      | cons u us =>
        cases us with
        | nil => exact ⟨u, hrun u (by simp), hr.2 0 _ u (by simp) (by simp)⟩
        | cons u2 us => simp at hlen
    · rename_i vs' hne heq
      injection heq with heq
      subst heq
      injection h with h
      subst h
      have h1 : us.toArray.size ≠ 1 := by
        intro e
        simp at e
        rw [← hlen] at e
        cases vs with
        | nil => simp at e
        | cons a vs => cases vs with
          | nil => exact hne a rfl
          | cons b vs => simp at e
      exact ⟨.tuple us.toArray, hrun _ (by rw [dif_neg h1]), .tuple (by simpa using hlen) (fun i x y hx hy => hr.2 i x y (by simpa using hx) (by simpa using hy))⟩
    · rename_i heq; cases heq

/-! ### A frame that is left -/
def TriLeave (P : Program) (fn : Func) (nt : Nat) (env : Env) (ds : List ADef) (pm : PM) (H : Heap) (Q : CRes → Heap → Prop) : Prop :=
  ∀ base w0 r w tmps es u, Rel base w0 r H w → ERel r env tmps → tmps.size = nt → DRel P r ds es → PMRel r pm u → LeavesInM (FR P none) 0 P fn tmps (CPost base w0 r Q) es u w

theorem LeavesInM_mono {F : Fence} {n : Nat} {fn : Func} {tmps : Array Value} {R R' : Ending → World → Prop} (hR : ∀ e w, R e w → R' e w) : ∀ (es : List Deferred) (u : FrameMode) (w : World), LeavesInM F n P fn tmps R es u w → LeavesInM F n P fn tmps R' es u w
  | [], u, w, h => by
    unfold LeavesInM at h ⊢
    cases u with
    | run => exact h.elim
    | returning => obtain ⟨v, h1, h2⟩ := h; exact ⟨v, h1, hR _ _ h2⟩
    | panicking ch => exact hR _ _ h
  | d :: es, u, w, h => by
    unfold LeavesInM at h ⊢
    refine ⟨h.1, ?_⟩
    rcases h.2 with ⟨r, w', h1, h2, h3⟩ | ⟨h0, fv, cap, f, args, h1, h2, h3, h4⟩
    · exact .inl ⟨r, w', h1, h2, LeavesInM_mono hR es u w' h3⟩
    · refine .inr ⟨h0, fv, cap, f, args, h1, h2, h3, h4.mono ?_⟩
      intro e u' w' he
      cases e with
      | returned v => exact LeavesInM_mono hR es _ w' he
      | panicked ch => exact LeavesInM_mono hR es _ w' he
      | outgrown => exact hR _ _ he

theorem leave_ret {fn : Func} {Q : CRes → Heap → Prop} {v : Value} (h : resultsA P fn env H = some v) (hq : Q (.ret v) H) : TriLeave P fn nt env [] .ret H Q := by
  intro base w0 r w tmps es u h1 h2 h3 h4 h5
  cases es with
  | cons e es => exact h4.elim
  | nil =>
    subst h5
    obtain ⟨v', hrun, hv⟩ := resultsA_sound h1 h2 h
    exact ⟨v', hrun, r, .ret v, H, Ren.le_refl r, h1, ⟨v', rfl, hv⟩, hq⟩

theorem leave_pan {fn : Func} {Q : CRes → Heap → Prop} {v : Value} (hq : Q (.pan v) H) : TriLeave P fn nt env [] (.pan v) H Q := by
  intro base w0 r w tmps es u h1 h2 h3 h4 h5
  cases es with
  | cons e es => exact h4.elim
  | nil =>
    obtain ⟨v', rfl, hv⟩ := h5
    exact ⟨r, .pan v, H, Ren.le_refl r, h1, ⟨v', rfl, hv⟩, hq⟩

theorem leave_mark {fn : Func} {Q : CRes → Heap → Prop} {b : Nat} {pm : PM} (hg : H.get b = some .defs) (h : TriLeave P fn nt env ds pm (H.set b .dead) Q) : TriLeave P fn nt env (.mark b :: ds) pm H Q := by
  intro base w0 r w tmps es u h1 h2 h3 h4 h5
  cases es with
  | nil => exact h4.elim
  | cons d es =>
    obtain ⟨⟨L, hL, rfl⟩, h4⟩ := h4
    obtain ⟨ob, hgo, hO⟩ := h1.dom b L hL
    rw [hg] at hgo; cases hgo
    obtain ⟨hd, hB⟩ := hO
    unfold LeavesInM
    refine ⟨h5.run, .inl ⟨L.B, w.putObj L.B (.deferred none), rfl, run_takeDeferred hd, ?_⟩⟩
    refine h base w0 r _ tmps es u ?_ h2 h3 h4 h5
    exact h1.write hL hg rfl .dead _ (below_set _ hB) (fun k hk => World.putObj_heap_other hk) trivial

/-- A deferred call. -/
def TriDef (P : Program) (f : FuncId) (args : List Value) (pm : PM) (H : Heap) (Q : PM → Heap → Prop) : Prop :=
  bodied P f = true → ∀ base w0 r w (as : Array Value) u, Rel base w0 r H w → LRel r args as.toList → PMRel r pm u →
    CallsDIn (FR P none) 0 P f as u w (fun e u' w' => ∃ v' r' pm' H', e = .returned v' ∧ Ren.le r r' ∧ Rel base w0 r' H' w' ∧ PMRel r' pm' u' ∧ Q pm' H')

theorem leave_fn {fn : Func} {Q : CRes → Heap → Prop} {f : FuncId} {args : List Value} {pm : PM} (h : TriDef P f args pm H (fun pm' H' => TriLeave P fn nt env ds pm'.settle H' Q)) : TriLeave P fn nt env (.fn f args :: ds) pm H Q := by
  intro base w0 r w tmps es u h1 h2 h3 h4 h5
  cases es with
  | nil => exact h4.elim
  | cons d es =>
    obtain ⟨⟨cap, as, rfl, hl, hb⟩, h4⟩ := h4
    unfold LeavesInM
    refine ⟨h5.run, .inr ⟨fun hh => absurd hh (FR_depth P none), .func f, cap, f, as ++ cap, rfl, ?_, ?_, ?_⟩⟩
    · simp only [invoke]; exact run_callFunc hb _ _
    · intro g hg; simp only [Target.leads, Option.some.injEq] at hg; subst hg; exact bodied_lt hb
    · refine (h hb base w0 r w (as ++ cap) u h1 hl h5).mono ?_
      rintro e u' w' ⟨v', r', pm', H', rfl, g1, g2, g3, g4⟩
      exact LeavesInM_mono (fun e w ⟨r2, res, H2, a, b, c, d⟩ => ⟨r2, res, H2, Ren.le_trans g1 a, b, c, d⟩) _ _ _ (g4 base w0 r' w' tmps es _ g2 (h2.mono g1) h3 (h4.mono g1) g3.settle)

/-! ### A function -/
def envOf : Nat → List Value → Env → Env
  | _, [], e => e
  | i, v :: vs, e => envOf (i + 1) vs (Tr.set e i v)

theorem envOf_val : ∀ (vs : List Value) (i : Nat) (e : Env) (j : Nat), (envOf i vs e).val j = if i ≤ j ∧ j < i + vs.length then vs.getD (j - i) undef else e.val j
  | [], i, e, j => by simp [envOf]; omega
  | v :: vs, i, e, j => by
    simp only [envOf]
    rw [envOf_val vs (i + 1), Env.val_set]
    simp only [List.length_cons]
    by_cases h : j = i
    · subst h
      rw [if_neg (by omega), if_pos rfl, if_pos (by omega)]
      simp
    · by_cases h2 : i + 1 ≤ j ∧ j < i + 1 + vs.length
      · rw [if_pos h2, if_pos (by omega), show j - i = (j - (i + 1)) + 1 by omega]
        simp
      · rw [if_neg h2, if_neg h, if_neg (by omega)]

theorem envOf_rel {r : Ren} {args : List Value} {as : Array Value} (h : LRel r args as.toList) (n : Nat) (hn : args.length ≤ n) : ERel r (envOf 0 args .nil) (as ++ Array.replicate (n - as.size) undef) := by
  intro i
  rw [envOf_val]
  have hl := h.1
  simp only [Array.length_toList] at hl
  simp only [Nat.zero_le, true_and, Nat.zero_add, Nat.sub_zero]
  rw [Array.getD_eq_getD_getElem?]
  split
  · rename_i hi
    rw [Array.getElem?_append_left (by omega)]
    rw [List.getD_eq_getElem?_getD, List.getElem?_eq_getElem hi]
    have hi2 : i < as.size := by omega
    rw [Array.getElem?_eq_getElem hi2]
    exact h.2 i _ _ (List.getElem?_eq_getElem hi) (by simp [hi2])
  · rename_i hi
    have e : Env.val (.nil : Env) i = undef := rfl
    rw [e, Array.getElem?_append_right (by omega), Array.getElem?_replicate]
    split <;> exact undef_rel r

def fnQ (P : Program) (fn : Func) (Q : CRes → Heap → Prop) : QCode := fun x env ds H => match x with
  | .normal | .ret => TriLeave P fn fn.ntmps env ds .ret H Q
  | .panic v => TriLeave P fn fn.ntmps env ds (.pan v) H Q
  | .exit _ => False

theorem triCall_fn {f : FuncId} {fn : Func} {c : Code} {args : List Value} {Q : CRes → Heap → Prop} (hf : P.funcs[f]? = some fn) (hb : fn.body = some c) (hn : args.length ≤ fn.ntmps)
    (h : Tri P fn.ntmps none c (envOf 0 args .nil) [] H (fnQ P fn Q)) : TriCall P f args H Q := by
  intro hbod base w0 r w as h1 hl
  have hlen := hl.1
  simp only [Array.length_toList] at hlen
  refine callsIn_of_wp_marks hf hb (bodied_lt hbod) (wpIn_mono (h base w0 r w { tmps := as ++ Array.replicate (fn.ntmps - as.size) undef, defers := [] } none h1 (envOf_rel hl _ hn) (by simp; omega) trivial (.inl ⟨rfl, rfl⟩)) ?_)
  rintro e a w' ⟨r', x, env', ds', H', g1, g2, g3, g4, g5, g6, g7⟩
  have hm : ∀ u, LeavesInM (FR P none) 0 P fn a.tmps (CPost base w0 r' Q) a.defers u w' → LeavesInM (FR P none) 0 P fn a.tmps (CPost base w0 r Q) a.defers u w' := fun u hh =>
    LeavesInM_mono (fun e w ⟨r2, res, H2, a, b, c, d⟩ => ⟨r2, res, H2, Ren.le_trans g1 a, b, c, d⟩) _ _ _ hh
  cases x with
  | normal => obtain rfl : e = .normal := g6; exact hm _ (g7 base w0 r' w' a.tmps a.defers .returning g2 g3 g4 g5 rfl)
  | ret => obtain rfl : e = .ret := g6; exact hm _ (g7 base w0 r' w' a.tmps a.defers .returning g2 g3 g4 g5 rfl)
  | panic v => obtain ⟨v', rfl, hv⟩ := g6; exact hm _ (g7 base w0 r' w' a.tmps a.defers _ g2 g3 g4 g5 ⟨v', rfl, hv⟩)
  | exit id => exact g7.elim

/-! ### A function that is deferred -/
abbrev QCodeS := AExit → Env → PM → Heap → Prop

def PostS (P : Program) (base : Nat) (w0 : World) (nt : Nat) (r : Ren) (c₀ : Frame) (cs : List Frame) (Q : QCodeS) : Exit → Act → List Frame → World → Prop := fun e a cs' w =>
  ∃ r' x env pm H u, Ren.le r r' ∧ Rel base w0 r' H w ∧ ERel r' env a.tmps ∧ a.tmps.size = nt ∧ a.defers = [] ∧ XRel r' x e ∧ PMRel r' pm u ∧ cs' = { c₀ with mode := u } :: cs ∧ Q x env pm H

def TriS (P : Program) (nt : Nat) (c : Code) (env : Env) (pm : PM) (H : Heap) (Q : QCodeS) : Prop :=
  ∀ base w0 r w a (c₀ : Frame) cs u, Rel base w0 r H w → ERel r env a.tmps → a.tmps.size = nt → a.defers = [] → PMRel r pm u →
    c.wpSIn (FR P none) 0 P (PostS P base w0 nt r c₀ cs Q) a ({ c₀ with mode := u } :: cs) w

def TriOpsS (P : Program) (nt : Nat) (ops : Array Oper) (l : List Nat) (env : Env) (pm : PM) (H : Heap) (Q : QCodeS) : Prop :=
  ∀ base w0 r w a (c₀ : Frame) cs u, Rel base w0 r H w → ERel r env a.tmps → a.tmps.size = nt → a.defers = [] → PMRel r pm u →
    wpOpsSIn (FR P none) 0 P ops (PostS P base w0 nt r c₀ cs Q) l a ({ c₀ with mode := u } :: cs) w

theorem PostS.mono {base : Nat} {w0 : World} {r r' : Ren} {c₀ : Frame} {cs : List Frame} {Q : QCodeS} (hr : Ren.le r r') {e : Exit} {a : Act} {cs' : List Frame} {w : World} (h : PostS P base w0 nt r' c₀ cs Q e a cs' w) : PostS P base w0 nt r c₀ cs Q e a cs' w := by
  obtain ⟨r2, x, env, pm, H, u, h1, h⟩ := h
  exact ⟨r2, x, env, pm, H, u, Ren.le_trans hr h1, h⟩

theorem wpSIn_mono {F : Fence} {n : Nat} {c : Code} {Q Q' : Exit → Act → List Frame → World → Prop} {a : Act} {cs : List Frame} {w : World} (h : c.wpSIn F n P Q a cs w) (hQ : ∀ e a cs w, Q e a cs w → Q' e a cs w) : c.wpSIn F n P Q' a cs w :=
  fun b k hb hr hf hroom => let ⟨e, a', cs', w', l, q, s⟩ := h b k hb hr hf hroom; ⟨e, a', cs', w', l, hQ _ _ _ _ q, s⟩

theorem triS_of_tri {c : Code} {pm : PM} {Q : QCodeS} (h : Tri P nt none c env [] H (fun x env' ds' H' => ds' = [] ∧ Q x env' pm H')) : TriS P nt c env pm H Q := by
  intro base w0 r w a c₀ cs u h1 h2 h3 h4 h5
  refine wpSIn_of_wpIn (FR_round P none) (wpIn_mono (h base w0 r w a none h1 h2 h3 (by rw [h4]; trivial) (.inl ⟨rfl, rfl⟩)) ?_)
  rintro e a' w' ⟨r', x, env', ds', H', g1, g2, g3, g4, g5, g6, rfl, g7⟩
  refine ⟨r', x, env', pm, H', u, g1, g2, g3, g4, ?_, g6, h5.mono g1, rfl, g7⟩
  cases hd : a'.defers with
  | nil => rfl
  | cons d es => rw [hd] at g5; exact g5.elim

theorem triS_seq {x y : Code} {pm : PM} {Q : QCodeS} (h : TriS P nt x env pm H (fun e env' pm' H' => match e with
    | .normal => TriS P nt y env' pm' H' Q
    | e => Q e env' pm' H')) : TriS P nt (.seq x y) env pm H Q := by
  intro base w0 r w a c₀ cs u h1 h2 h3 h4 h5
  refine wpSIn_seq (wpSIn_mono (h base w0 r w a c₀ cs u h1 h2 h3 h4 h5) ?_)
  rintro e a' cs' w' ⟨r', ex, env', pm', H', u', g1, g2, g3, g4, g5, g6, g7, rfl, g8⟩
  cases ex with
  | normal =>
    obtain rfl : e = .normal := g6
    exact wpSIn_mono (g8 base w0 r' w' a' c₀ cs u' g2 g3 g4 g5 g7) fun _ _ _ _ hp => hp.mono g1
  | exit id => obtain rfl : e = .exit id := g6; exact ⟨r', .exit id, env', pm', H', u', g1, g2, g3, g4, g5, rfl, g7, rfl, g8⟩
  | ret => obtain rfl : e = .ret := g6; exact ⟨r', .ret, env', pm', H', u', g1, g2, g3, g4, g5, rfl, g7, rfl, g8⟩
  | panic v => obtain ⟨v', rfl, hv⟩ := g6; exact ⟨r', .panic v, env', pm', H', u', g1, g2, g3, g4, g5, ⟨v', rfl, hv⟩, g7, rfl, g8⟩

theorem triS_region {id : Nat} {ops : Array Oper} {pm : PM} {Q : QCodeS} (h : TriOpsS P nt ops (List.range ops.size) env pm H Q) : TriS P nt (.region id ops false) env pm H Q :=
  fun base w0 r w a c₀ cs u h1 h2 h3 h4 h5 => wpSIn_region (h base w0 r w a c₀ cs u h1 h2 h3 h4 h5)

theorem triOpsS_nil {ops : Array Oper} {pm : PM} {Q : QCodeS} (h : Q .normal env pm H) : TriOpsS P nt ops [] env pm H Q :=
  fun base w0 r w a c₀ cs u h1 h2 h3 h4 h5 => ⟨r, .normal, env, pm, H, u, Ren.le_refl r, h1, h2, h3, h4, rfl, h5, rfl, h⟩

theorem wpOpsSIn_mono {F : Fence} {n : Nat} {ops : Array Oper} {Q Q' : Exit → Act → List Frame → World → Prop} (hQ : ∀ e a cs w, Q e a cs w → Q' e a cs w) : ∀ (l : List Nat) (a : Act) (cs : List Frame) (w : World), wpOpsSIn F n P ops Q l a cs w → wpOpsSIn F n P ops Q' l a cs w
  | [], a, cs, w, h => hQ _ _ _ _ h
  | i :: l, a, cs, w, h => by
    unfold wpOpsSIn at h ⊢
    cases ho : ops[i]? with
    | none => simp only [ho] at h ⊢; exact wpOpsSIn_mono hQ l a cs w h
    | some o =>
      simp only [ho] at h ⊢
      refine ⟨h.1, ?_⟩
      have h2 := h.2
      split at h2
      · rename_i hw
        rw [if_pos hw]
        split at h2
        · rename_i w' hr
          split at h2
          · rename_i v cs' hrec; exact wpOpsSIn_mono hQ l _ _ _ h2
          · rename_i hrec; exact wpOpsSIn_mono hQ l _ _ _ h2
        · rename_i v w' hr; exact wpOpsSIn_mono hQ l _ _ _ h2
        · rename_i w' hr; exact wpOpsSIn_mono hQ l _ _ _ h2
        · rename_i v w' hr; exact hQ _ _ _ _ h2
        · exact h2.elim
      · rename_i hw
        rw [if_neg hw]
        exact wpOpsSIn_mono hQ l _ _ _ h2

theorem triOpsS_val {ops : Array Oper} {i : Nat} {l : List Nat} {o : Oper} {v : Value} {H' : Heap} {pm : PM} {Q : QCodeS} (ho : ops[i]? = some o) (hg : guardA ops env o = true) (hd : dstOk nt o.dst = true) (hop : opA P env o H = some (.val v, H'))
    (h : TriOpsS P nt ops l (putA env o.dst v) pm H' Q) : TriOpsS P nt ops (i :: l) env pm H Q := by
  intro base w0 r w a c₀ cs u h1 h2 h3 h4 h5
  unfold wpOpsSIn
  simp only [ho]
  refine ⟨aboutOk_sound (opA_about hop) h2.srel, ?_⟩
  rw [guardA_rel h2, hg]
  simp only [if_true]
  obtain ⟨x, w', v', r', hrun, hx, hle, hv, hR'⟩ := opA_sound hop h1 h2.srel
  rw [hrun]
  obtain ⟨e1, e2, e3⟩ := (h2.mono hle).put h3 hd hv
  have := wpOpsSIn_mono (fun _ _ _ _ hp => PostS.mono hle hp) _ _ _ _ (h base w0 r' w' _ c₀ cs u hR' e1 e2 (by rw [e3]; exact h4) (h5.mono hle))
  rcases hx with rfl | ⟨rfl, rfl⟩
  · exact this
  · exact this

theorem triOpsS_recover {ops : Array Oper} {i : Nat} {l : List Nat} {o : Oper} {H' : Heap} {pm : PM} {Q : QCodeS} (ho : ops[i]? = some o) (hg : guardA ops env o = true) (hd : dstOk nt o.dst = true) (hop : opA P env o H = some (.recover, H'))
    (h : TriOpsS P nt ops l (putA env o.dst (match pm with | .pan v => v | _ => .nilIface)) (match pm with | .pan v => .recd v | p => p) H' Q) : TriOpsS P nt ops (i :: l) env pm H Q := by
  intro base w0 r w a c₀ cs u h1 h2 h3 h4 h5
  unfold wpOpsSIn
  simp only [ho]
  refine ⟨aboutOk_sound (opA_about hop) h2.srel, ?_⟩
  rw [guardA_rel h2, hg]
  simp only [if_true]
  obtain ⟨w', hrun, hR'⟩ := opA_sound hop h1 h2.srel
  rw [hrun]
  cases pm with
  | ret =>
    obtain rfl : u = .returning := h5
    simp only [recoverD]
    obtain ⟨e1, e2, e3⟩ := h2.put h3 hd (.nilIface (r := r))
    exact h base w0 r w' _ c₀ cs _ hR' e1 e2 (by rw [e3]; exact h4) rfl
  | pan v =>
    obtain ⟨v', rfl, hv⟩ := h5
    simp only [recoverD]
    obtain ⟨e1, e2, e3⟩ := h2.put h3 hd hv
    exact h base w0 r w' _ c₀ cs _ hR' e1 e2 (by rw [e3]; exact h4) ⟨v', rfl, hv⟩
  | recd v =>
    obtain ⟨v', rfl, hv⟩ := h5
    simp only [recoverD]
    obtain ⟨e1, e2, e3⟩ := h2.put h3 hd (.nilIface (r := r))
    exact h base w0 r w' _ c₀ cs _ hR' e1 e2 (by rw [e3]; exact h4) ⟨v', rfl, hv⟩

theorem triDef_fn {f : FuncId} {fn : Func} {c : Code} {args : List Value} {pm : PM} {Q : PM → Heap → Prop} (hf : P.funcs[f]? = some fn) (hb : fn.body = some c) (hn : args.length ≤ fn.ntmps)
    (h : TriS P fn.ntmps c (envOf 0 args .nil) pm H (fun x env' pm' H' => (x = .normal ∨ x = .ret) ∧ (∃ v, resultsA P fn env' H' = some v) ∧ Q pm' H')) : TriDef P f args pm H Q := by
  intro hbod base w0 r w as u h1 hl h5
  have hlen := hl.1
  simp only [Array.length_toList] at hlen
  refine callsDIn_of_wpSIn hf hb (bodied_lt hbod) ?_
  intro c₀ cs hu
  have hc : ({ c₀ with mode := u } : Frame) = c₀ := by subst hu; rfl
  have := h base w0 r w { tmps := as ++ Array.replicate (fn.ntmps - as.size) undef, defers := [] } c₀ cs u h1 (envOf_rel hl _ hn) (by simp; omega) rfl h5
  rw [hc] at this
  refine wpSIn_mono this ?_
  rintro e a cs' w' ⟨r', x, env', pm', H', u', g1, g2, g3, g4, g5, g6, g7, rfl, g8, ⟨v, g9⟩, g10⟩
  obtain ⟨v', hrun, hv⟩ := resultsA_sound g2 g3 g9
  rcases g8 with rfl | rfl
  · obtain rfl : e = .normal := g6
    exact ⟨g5, u', rfl, v', hrun, v', r', pm', H', rfl, g1, g2, g7, g10⟩
  · obtain rfl : e = .ret := g6
    exact ⟨g5, u', rfl, v', hrun, v', r', pm', H', rfl, g1, g2, g7, g10⟩
end
end Go.Abs
