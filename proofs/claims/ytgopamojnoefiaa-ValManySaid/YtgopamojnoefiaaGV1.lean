/-
  A part of a proof: texts laid behind one another (V1, V2, V3, V4, V5, V6, V7, V8).
-/
import Derived.Test.YtgopamojnoefiaaGF
import Derived.Test.YtgopamojnoefiaaGA4
namespace Go.Proofs.Ytgopamojnoefiaa
open Go Go.Abs
set_option maxRecDepth 100000
set_option linter.unusedSimpArgs false
set_option linter.unusedVariables false

/-! ### Values as data -/
inductive ValD where
  | mk (k n : Int) (l : List ValD)
namespace ValD
def kind : ValD → Int
  | .mk k _ _ => k
def num : ValD → Int
  | .mk _ n _ => n
def own : ValD → List ValD
  | .mk _ _ l => l
mutual
def size : ValD → Nat
  | .mk _ _ l => sizes l + 1
def sizes : List ValD → Nat
  | [] => 0
  | v :: l => size v + sizes l
end
theorem size_pos (v : ValD) : 0 < v.size := by cases v; simp [size]
theorem size_eq (v : ValD) : v.size = sizes v.own + 1 := by cases v; rfl
theorem sizes_append : ∀ l r : List ValD, sizes (l ++ r) = sizes l + sizes r
  | [], r => by simp [sizes]
  | v :: l, r => by simp only [List.cons_append, sizes, sizes_append l r]; omega
theorem mem_sizes : ∀ {l : List ValD} {v : ValD}, v ∈ l → v.size ≤ sizes l
  | v :: l, w, h => by
    simp only [sizes]
    rcases List.mem_cons.1 h with rfl | h
    · omega
    · have := mem_sizes h; omega
theorem mem_size {v w : ValD} (h : w ∈ v.own) : w.size < v.size := by
  have := mem_sizes h
  rw [size_eq v]; omega
theorem length_sizes : ∀ l : List ValD, l.length ≤ sizes l
  | [] => by simp [sizes]
  | v :: l => by have := length_sizes l; have := size_pos v; simp only [sizes, List.length_cons]; omega
theorem ind {P : ValD → Prop} (h : ∀ v, (∀ w ∈ v.own, P w) → P v) : ∀ v, P v := by
  have : ∀ (m : Nat) (v : ValD), v.size ≤ m → P v := by
    intro m
    induction m with
    | zero => intro v hv; have := size_pos v; omega
    | succ m ih => intro v hv; exact h v fun w hw => ih w (by have := mem_size hw; omega)
  exact fun v => this v.size v (Nat.le_refl _)
end ValD

/-- A value stands in cells. -/
inductive VAt (H : Heap) : ValD → List Value → Prop
  | mk {k n : Int} {s : Value} {xs : List (List Value)} {l : List ValD} (hq : sliceOk H 3 s) (hs : rdS H 3 s = some xs) (hl : xs.length = l.length) (hx : ∀ (i : Nat) x v, xs[i]? = some x → l[i]? = some v → VAt H v x) : VAt H (.mk k n l) [.int .i64 k, .int .i64 n, s]
theorem VAt.inv {H : Heap} {d : ValD} {cs : List Value} (h : VAt H d cs) : ∃ s xs, cs = [.int .i64 d.kind, .int .i64 d.num, s] ∧ rdS H 3 s = some xs ∧ xs.length = d.own.length ∧ (∀ (i : Nat) x v, xs[i]? = some x → d.own[i]? = some v → VAt H v x) ∧ sliceOk H 3 s := by
  cases h with
  | mk hq hs hl hx => exact ⟨_, _, rfl, hs, hl, hx, hq⟩
theorem VAt.of {H : Heap} {d : ValD} {s : Value} {xs : List (List Value)} (hq : sliceOk H 3 s) (hs : rdS H 3 s = some xs) (hl : xs.length = d.own.length) (hx : ∀ (i : Nat) x v, xs[i]? = some x → d.own[i]? = some v → VAt H v x) : VAt H d [.int .i64 d.kind, .int .i64 d.num, s] := by
  cases d; exact .mk hq hs hl hx
theorem VAt.ext {H H' : Heap} (hx : Ext H H') : ∀ {d : ValD} {cs : List Value}, VAt H d cs → VAt H' d cs := by
  intro d
  induction d using ValD.ind with
  | h d ih =>
    intro cs h
    obtain ⟨s, xs, rfl, hs, hl, hh, hq⟩ := h.inv
    exact .of (hq.ext hx) (rdS_ext hx hs) hl fun i x v h1 h2 => ih v (List.mem_of_getElem? h2) (hh i x v h1 h2)
theorem VAt.uniq {H : Heap} : ∀ {d d' : ValD} {cs : List Value}, VAt H d cs → VAt H d' cs → d = d' := by
  intro d
  induction d using ValD.ind with
  | h d ih =>
    intro d' cs h h'
    obtain ⟨s, xs, rfl, hs, hl, hh, _⟩ := h.inv
    obtain ⟨s', xs', e, hs', hl', hh', _⟩ := h'.inv
    simp only [List.cons.injEq, Value.int.injEq, true_and, and_true] at e
    obtain ⟨e1, e2, rfl⟩ := e
    rw [hs] at hs'
    cases hs'
    cases d with | mk k n l =>
    cases d' with | mk k' n' l' =>
    simp only [ValD.kind, ValD.num, ValD.own] at *
    subst e1; subst e2
    congr 1
    apply List.ext_getElem?
    intro i
    by_cases hi : i < l.length
    · have a := List.getElem?_eq_getElem hi
      have b := List.getElem?_eq_getElem (l := l') (i := i) (by omega)
      have c := List.getElem?_eq_getElem (l := xs) (i := i) (by omega)
      rw [a, b, ih _ (List.getElem_mem _) (hh i _ _ c a) (hh' i _ _ c b)]
    · rw [List.getElem?_eq_none (by omega), List.getElem?_eq_none (by omega)]
theorem VAt.one {H : Heap} {d : ValD} {cs : List Value} (h : VAt H d cs) : ∃ s, cs = [.int .i64 d.kind, .int .i64 d.num, s] ∧ s.cells = #[s] ∧ oneC s = true ∧ eqV s s = true ∧ eq0 s s = true := by
  obtain ⟨s, xs, rfl, hs, _⟩ := h.inv
  exact ⟨s, rfl, rdS_one hs⟩

/-- A value, read. -/
def valOf (v : Value) : List Value := match v with
  | .agg cs => cs.toList
  | _ => []
open Classical in
noncomputable def rdVal (H : Heap) (v : Value) : Option ValD := if h : ∃ d, VAt H d (valOf v) ∧ v = .agg (valOf v).toArray then some (Classical.choose h) else none
theorem rdVal_inv {H : Heap} {v : Value} {d : ValD} (h : rdVal H v = some d) : VAt H d (valOf v) ∧ v = .agg (valOf v).toArray := by
  unfold rdVal at h
  split at h
  · rename_i hh
    cases h
    exact Classical.choose_spec hh
  · cases h
theorem rdVal_of {H : Heap} {cs : List Value} {d : ValD} (h : VAt H d cs) : rdVal H (.agg cs.toArray) = some d := by
  unfold rdVal
  have hh : ∃ d, VAt H d (valOf (.agg cs.toArray)) ∧ Value.agg cs.toArray = .agg (valOf (.agg cs.toArray)).toArray := ⟨d, by simpa [valOf] using h, by simp [valOf]⟩
  rw [dif_pos hh]
  congr 1
  exact ((Classical.choose_spec hh).1).uniq (by simpa [valOf] using h)
theorem rdVal_cells {H : Heap} {v : Value} {d : ValD} (h : rdVal H v = some d) : ∃ s xs, v = .agg #[.int .i64 d.kind, .int .i64 d.num, s] ∧ rdS H 3 s = some xs ∧ xs.length = d.own.length ∧ (∀ (i : Nat) x v, xs[i]? = some x → d.own[i]? = some v → VAt H v x) ∧ VAt H d [.int .i64 d.kind, .int .i64 d.num, s] ∧ s.cells = #[s] ∧ oneC s = true ∧ eqV s s = true ∧ eq0 s s = true ∧ sliceOk H 3 s := by
  obtain ⟨h1, h2⟩ := rdVal_inv h
  obtain ⟨s, xs, e, hs, hl, hx, hq⟩ := h1.inv
  rw [e] at h1 h2
  obtain ⟨o1, o2, o3, o4⟩ := rdS_one hs
  exact ⟨s, xs, h2, hs, hl, hx, h1, o1, o2, o3, o4, hq⟩
theorem rdVal_ext {H H' : Heap} (hx : Ext H H') {v : Value} {d : ValD} (h : rdVal H v = some d) : rdVal H' v = some d := by
  obtain ⟨h1, h2⟩ := rdVal_inv h
  rw [h2]
  exact rdVal_of (h1.ext hx)

/-- Values, one behind the other. -/
def VsAt (H : Heap) (s : Value) (xs : List (List Value)) (l : List ValD) : Prop := rdS H 3 s = some xs ∧ xs.length = l.length ∧ (∀ (i : Nat) x v, xs[i]? = some x → l[i]? = some v → VAt H v x) ∧ sliceOk H 3 s
theorem VsAt.ext {H H' : Heap} (hx : Ext H H') {s : Value} {xs : List (List Value)} {l : List ValD} (h : VsAt H s xs l) : VsAt H' s xs l := ⟨rdS_ext hx h.1, h.2.1, fun i x v a b => (h.2.2.1 i x v a b).ext hx, h.2.2.2.ext hx⟩
theorem VsAt.get {H : Heap} {s : Value} {xs : List (List Value)} {l : List ValD} (h : VsAt H s xs l) {i : Nat} {v : ValD} (hv : l[i]? = some v) : ∃ s', xs[i]? = some [.int .i64 v.kind, .int .i64 v.num, s'] ∧ VAt H v [.int .i64 v.kind, .int .i64 v.num, s'] := by
  have hi := (List.getElem?_eq_some_iff.1 hv).1
  have hx := List.getElem?_eq_getElem (l := xs) (i := i) (by rw [h.2.1]; exact hi)
  have := h.2.2.1 i _ _ hx hv
  obtain ⟨s', e, _⟩ := this.one
  exact ⟨s', by rw [hx, e], e ▸ this⟩
open Classical in
noncomputable def rdVals (H : Heap) (s : Value) : Option (List ValD) := if h : ∃ l, ∃ xs, VsAt H s xs l then some (Classical.choose h) else none
theorem VsAt.uniq {H : Heap} {s : Value} {xs ys : List (List Value)} {l l' : List ValD} (h : VsAt H s xs l) (h' : VsAt H s ys l') : l = l' := by
  obtain ⟨a1, a2, a3, _⟩ := h
  obtain ⟨b1, b2, b3, _⟩ := h'
  rw [a1] at b1
  cases b1
  apply List.ext_getElem?
  intro i
  by_cases hi : i < l.length
  · have a := List.getElem?_eq_getElem hi
    have b := List.getElem?_eq_getElem (l := l') (i := i) (by omega)
    have c := List.getElem?_eq_getElem (l := xs) (i := i) (by omega)
    rw [a, b, (a3 _ _ _ c a).uniq (b3 _ _ _ c b)]
  · rw [List.getElem?_eq_none (by omega), List.getElem?_eq_none (by omega)]
theorem rdVals_inv {H : Heap} {s : Value} {l : List ValD} (h : rdVals H s = some l) : ∃ xs, VsAt H s xs l := by
  unfold rdVals at h
  split at h
  · rename_i hh
    cases h
    exact Classical.choose_spec hh
  · cases h
theorem rdVals_of {H : Heap} {s : Value} {xs : List (List Value)} {l : List ValD} (h : VsAt H s xs l) : rdVals H s = some l := by
  unfold rdVals
  have hh : ∃ l, ∃ xs, VsAt H s xs l := ⟨l, xs, h⟩
  rw [dif_pos hh]
  congr 1
  obtain ⟨ys, hy⟩ := Classical.choose_spec hh
  exact hy.uniq h
theorem rdVals_ext {H H' : Heap} (hx : Ext H H') {s : Value} {l : List ValD} (h : rdVals H s = some l) : rdVals H' s = some l := by
  obtain ⟨xs, h1⟩ := rdVals_inv h
  exact rdVals_of (h1.ext hx)
theorem rdVals_own {H : Heap} {v : Value} {d : ValD} (h : rdVal H v = some d) : ∃ s, v = .agg #[.int .i64 d.kind, .int .i64 d.num, s] ∧ rdVals H s = some d.own := by
  obtain ⟨s, xs, e, h1, h2, h3, _, _, _, _, _, hq⟩ := rdVal_cells h
  exact ⟨s, e, rdVals_of ⟨h1, h2, h3, hq⟩⟩
theorem rdVals_len {H : Heap} {s : Value} {l : List ValD} (h : rdVals H s = some l) (t : TypeId) (ht : Try.prog.underlying t = some (.slice 25)) : builtinA Try.prog .len #[t] [s] H = some (.val (.int .i64 l.length), H) := by
  obtain ⟨xs, h1, h2, _⟩ := rdVals_inv h
  have := len_of (H' := H) (P := Try.prog) (t := t) h1 ht
  rw [h2] at this
  exact this
theorem rdVals_one {H : Heap} {s : Value} {l : List ValD} (h : rdVals H s = some l) : s.cells = #[s] ∧ oneC s = true ∧ eqV s s = true := by
  obtain ⟨xs, h1, _⟩ := rdVals_inv h
  obtain ⟨a, b, c, _⟩ := rdS_one h1
  exact ⟨a, b, c⟩
/-- An element of a row of values: its place, its kind, itself. -/
theorem rdVals_at {H : Heap} {s : Value} {l : List ValD} (h : rdVals H s = some l) {i : Nat} {v : ValD} (hv : l[i]? = some v) :
    ∃ s', indexAddrA Try.prog 23 s (i : Int) = some (.pointer (some ⟨blk s, offs s + i * 3, none⟩)) ∧ loadA Try.prog 22 H (blk s) (offs s + i * 3) = some (.int .i64 v.kind) ∧ loadA Try.prog 25 H (blk s) (offs s + i * 3) = some (.agg #[.int .i64 v.kind, .int .i64 v.num, s']) ∧ VAt H v [.int .i64 v.kind, .int .i64 v.num, s'] ∧ oneC s' = true := by
  obtain ⟨xs, h1⟩ := rdVals_inv h
  have hi := (List.getElem?_eq_some_iff.1 hv).1
  obtain ⟨s', g1, g2⟩ := h1.get hv
  have ix := rdS_index h1.1 Try.underlying23 info25 size25 (n := (i : Int)) (by omega) (by have := h1.2.1; omega)
  simp only [Int.toNat_natCast] at ix
  obtain ⟨_, e, _, o, _⟩ := g2.one
  simp only [List.cons.injEq, true_and, and_true] at e
  subst e
  exact ⟨s', ix, rdS_load0 h1.1 g1 (u := .int .i64 v.kind) rfl (t := 22) info22 Try.underlying22 rfl, rdS_loadA h1.1 g1 (t := 25) info25 size25 Try.underlying25 rfl, g2, o⟩
end Go.Proofs.Ytgopamojnoefiaa

namespace Go.Proofs.Ytgopamojnoefiaa
open Go Go.Abs
set_option maxRecDepth 100000
set_option linter.unusedSimpArgs false
set_option linter.unusedVariables false

/-! ### Small functions -/
def isEv (k : Int) : Bool := decide (5 ≤ k ∧ k ≤ 13)
noncomputable def zeroC : Contract Try.prog := Contract.plain 81
  (fun args _ => match args with
    | [.int .i64 n] => some (.ret (.bool (decide (n = 0))))
    | _ => none) (by
    intro args H res hw hr
    split at hr
    · rename_i n
      cases hr
      exact ⟨rfl, _, H, noCall_ok, 0, by simp [Try.f81, beqD], Ext.refl H⟩
    · cases hr)
noncomputable def anyC : Contract Try.prog := Contract.plain 83
  (fun args _ => match args with
    | [.int .i64 n] => some (.ret (.bool true))
    | _ => none) (by
    intro args H res hw hr
    split at hr
    · rename_i n
      cases hr
      exact ⟨rfl, _, H, noCall_ok, 0, by simp [Try.f83], Ext.refl H⟩
    · cases hr)
noncomputable def placeC : Contract Try.prog := Contract.plain 84
  (fun args _ => match args with
    | [.int .i64 n] => some (.ret (.bool (decide (0 ≤ n))))
    | _ => none) (by
    intro args H res hw hr
    split at hr
    · rename_i n
      cases hr
      exact ⟨rfl, _, H, noCall_ok, 0, by simp [Try.f84], Ext.refl H⟩
    · cases hr)
noncomputable def functionC : Contract Try.prog := Contract.plain 91
  (fun args _ => match args with
    | [.int .i64 n] => some (.ret (.bool (decide (0 ≤ n ∧ n < 64))))
    | _ => none) (by
    intro args H res hw hr
    split at hr
    · rename_i n
      cases hr
      refine ⟨rfl, _, H, noCall_ok, 0, ?_, Ext.refl H⟩
      by_cases h1 : 0 ≤ n
      · simp [Try.f91, h1]
      · simp [undef, Try.f91, h1]
    · cases hr)
noncomputable def refEventC : Contract Try.prog := Contract.plain 52
  (fun args _ => match args with
    | [.int .i64 n] => some (.ret (.bool (isEv n)))
    | _ => none) (by
    intro args H res hw hr
    split at hr
    · rename_i n
      cases hr
      refine ⟨rfl, _, H, noCall_ok, 0, ?_, Ext.refl H⟩
      by_cases h1 : 5 ≤ n
      · simp [Try.f52, isEv, h1]
      · simp [undef, Try.f52, isEv, h1]
    · cases hr)
noncomputable def mustC : Contract Try.prog := Contract.plain 73
  (fun args _ => match args with
    | [.bool b, .int .i64 n] => some (bif b then .ret (.tuple #[]) else .pan (.iface 28 (.int .i64 n)))
    | _ => none) (by
    intro args H res hw hr
    split at hr
    · rename_i b n
      cases hr
      refine ⟨by cases b <;> rfl, _, H, noCall_ok, 0, ?_, Ext.refl H⟩
      cases b <;> simp [Try.f73]
    · cases hr)
noncomputable def eventC : Contract Try.prog := Contract.plain 51
  (fun args H => match args with
    | [v] => match rdVal H v with
      | some d => some (.ret (.bool (isEv d.kind)))
      | none => none
    | _ => none) (by
    intro args H res hw hr
    split at hr
    · rename_i v
      split at hr
      · rename_i d hd
        simp only [Option.some.injEq] at hr
        subst hr
        obtain ⟨s, xs, rfl, _, _, _, _, _, os, _⟩ := rdVal_cells hd
        have ld : loadA Try.prog 22 (H.push (.cells true 3 [.int .i64 d.kind, .int .i64 d.num, s])) H.next 0 = some (.int .i64 d.kind) := by simp [loadA, get_push_self]
        refine ⟨rfl, _, H.push (.cells true 3 [.int .i64 d.kind, .int .i64 d.num, s]), noCall_ok, 0, ?_, Ext.push hw _⟩
        by_cases h1 : 5 ≤ d.kind
        · simp [Try.f51, os, ld, isEv, h1]
        · simp [undef, Try.f51, os, ld, isEv, h1]
      · cases hr
    · cases hr)
theorem event_hit {cs : List (Contract Try.prog)} {H : Heap} {v : Value} {d : ValD} (h : rdVal H v = some d) : callOf (eventC :: cs) (.fn 51 [v]) H = some (.ret (.bool (isEv d.kind)), H) :=
  callOf_hit rfl (by simp [eventC, Contract.plain, h])
noncomputable def argsC : Contract Try.prog := Contract.plain 93
  (fun args H => match args with
    | [s] => match rdVals H s with
      | some l => some (.ret (.bool (decide (l.length ≤ 8))))
      | none => none
    | _ => none) (by
    intro args H res hw hr
    split at hr
    · rename_i s
      split at hr
      · rename_i l hl
        simp only [Option.some.injEq] at hr
        subst hr
        have hlen := rdVals_len hl 23 Try.underlying23
        refine ⟨rfl, _, H, noCall_ok, 0, ?_, Ext.refl H⟩
        by_cases h : l.length ≤ 8
        · have : (l.length : Int) ≤ 8 := by omega
          simp [Try.f93, hlen, this, h]
        · have : ¬ (l.length : Int) ≤ 8 := by omega
          simp [Try.f93, hlen, this, h]
      · cases hr
    · cases hr)
theorem args_hit {cs : List (Contract Try.prog)} {H : Heap} {s : Value} {l : List ValD} (h : rdVals H s = some l) : callOf (argsC :: cs) (.fn 93 [s]) H = some (.ret (.bool (decide (l.length ≤ 8))), H) :=
  callOf_hit rfl (by simp [argsC, Contract.plain, h])
noncomputable def manyC : Contract Try.prog := Contract.plain 95
  (fun args H => match args with
    | [s, .pointer (some ⟨b, 0, none⟩)] => match rdVals H s, H.get b with
      | some l, some (.cells true 1 [.int .i64 m]) => some (.ret (.bool (decide ((l.length : Int) = m))))
      | _, _ => none
    | _ => none) (by
    intro args H res hw hr
    split at hr
    · rename_i s b
      split at hr
      · rename_i l m hl hb
        simp only [Option.some.injEq] at hr
        subst hr
        have hlen := rdVals_len hl 23 Try.underlying23
        have ld : loadA Try.prog 3 H b 0 = some (.int .i64 m) := by simp [loadA, hb]
        exact ⟨rfl, _, H, noCall_ok, 0, by simp [Try.f95, hlen, ld, beqD], Ext.refl H⟩
      · cases hr
    · cases hr)
theorem many_hit {cs : List (Contract Try.prog)} {H : Heap} {s : Value} {l : List ValD} {b : Nat} {m : Int} (h : rdVals H s = some l) (hb : H.get b = some (.cells true 1 [.int .i64 m])) : callOf (manyC :: cs) (.fn 95 [s, .pointer (some ⟨b, 0, none⟩)]) H = some (.ret (.bool (decide ((l.length : Int) = m))), H) :=
  callOf_hit rfl (by simp [manyC, Contract.plain, h, hb])
noncomputable def channelC : Contract Try.prog := Contract.plain 86
  (fun args H => match args with
    | [s] => match rdVals H s with
      | some (d :: l) => some (.ret (.bool (decide (d.kind = 4))))
      | _ => none
    | _ => none) (by
    intro args H res hw hr
    split at hr
    · rename_i s
      split at hr
      · rename_i d l hl
        simp only [Option.some.injEq] at hr
        subst hr
        obtain ⟨s', ix, l0, _⟩ := rdVals_at hl (i := 0) rfl
        simp at ix l0
        exact ⟨rfl, _, H, noCall_ok, 0, by simp [Try.f86, ix, l0, beqD], Ext.refl H⟩
      · cases hr
    · cases hr)
theorem channel_hit {cs : List (Contract Try.prog)} {H : Heap} {s : Value} {d : ValD} {l : List ValD} (h : rdVals H s = some (d :: l)) : callOf (channelC :: cs) (.fn 86 [s]) H = some (.ret (.bool (decide (d.kind = 4))), H) :=
  callOf_hit rfl (by simp [channelC, Contract.plain, h])
end Go.Proofs.Ytgopamojnoefiaa

namespace Go.Proofs.Ytgopamojnoefiaa
open Go Go.Abs
set_option maxRecDepth 100000
set_option linter.unusedSimpArgs false
set_option linter.unusedVariables false

/-! ### What stands in a value, by its kind -/
noncomputable def notEvC : Contract Try.prog := Contract.plain 90
  (fun args H => match args with
    | [v] => match rdVal H v with
      | some d => some (.ret (.bool (!isEv d.kind)))
      | none => none
    | _ => none) (by
    intro args H res hw hr
    split at hr
    · rename_i v
      split at hr
      · rename_i d hd
        simp only [Option.some.injEq] at hr
        subst hr
        obtain ⟨s, xs, rfl, h1, h2, h3, _, _, os, _⟩ := rdVal_cells hd
        have x1 := Ext.push hw (.cells true 3 [.int .i64 d.kind, .int .i64 d.num, s])
        have ld : loadA Try.prog 25 (H.push (.cells true 3 [.int .i64 d.kind, .int .i64 d.num, s])) H.next 0 = some (.agg #[.int .i64 d.kind, .int .i64 d.num, s]) := by simp [loadA, get_push_self]
        have hc := event_hit (cs := []) (rdVal_ext x1 hd)
        refine ⟨rfl, callOf [eventC], H.push (.cells true 3 [.int .i64 d.kind, .int .i64 d.num, s]), callOf_ok _, 0, ?_, x1⟩
        generalize callOf [eventC] = call at hc
        simp [Try.f90, os, ld, callA, hc]
      · cases hr
    · cases hr)
theorem notEv_hit {cs : List (Contract Try.prog)} {H : Heap} {v : Value} {d : ValD} (h : rdVal H v = some d) : callOf (notEvC :: cs) (.fn 90 [v]) H = some (.ret (.bool (!isEv d.kind)), H) :=
  callOf_hit rfl (by simp [notEvC, Contract.plain, h])

def pIF : List Nat := [1, 0, 1, 0, 0]
theorem if_exit {call : CallF} {lf : Nat} {env : Env} {H : Heap} {i n : Nat} (e7 : env.val 7 = .int .i64 n) (e8 : env.val 8 = .int .i64 i) (hi : n ≤ i) :
    ∃ env', evCode Try.prog call lf 19 none (cAt Try.f96 pIF) env [] H = some (.exit 0, env', [], H) := by
  have c1 : ¬ (i : Int) < (n : Int) := by omega
  generalize hr : evCode Try.prog call lf 19 none (cAt Try.f96 pIF) env [] H = out
  simp [pIF, Try.f96, e7, e8, c1, hi] at hr
  subst hr
  exact ⟨_, rfl⟩
theorem if_step {lf : Nat} {env : Env} {H : Heap} {i n : Nat} {s : Value} {l : List ValD} {d : ValD} (hs : rdVals H s = some l) (hd : l[i]? = some d) (hn : l.length = n) (hb : n < 1099511627776) (e0 : env.val 0 = s) (e1 : env.val 1 = .func (.func 90) #[] #[]) (e7 : env.val 7 = .int .i64 n) (e8 : env.val 8 = .int .i64 i) :
    (isEv d.kind = false → ∃ env', evCode Try.prog (callOf [notEvC]) lf 19 none (cAt Try.f96 pIF) env [] H = some (.ret, env', [], H) ∧ env'.val 4 = .int .i64 i) ∧
    (isEv d.kind = true → ∃ env', evCode Try.prog (callOf [notEvC]) lf 19 none (cAt Try.f96 pIF) env [] H = some (.normal, env', [], H) ∧ env'.val 0 = env.val 0 ∧ env'.val 1 = env.val 1 ∧ env'.val 7 = env.val 7 ∧ env'.val 8 = .int .i64 ((i + 1 : Nat) : Int)) := by
  have hk := (List.getElem?_eq_some_iff.1 hd).1
  have c1 : (i : Int) < (n : Int) := by omega
  have hi : i < n := by omega
  have w1 : IntKind.i64.wrap ((i : Int) + 1) = (i : Int) + 1 := wrapI (by omega) (by omega)
  obtain ⟨s', ix, _, lv, hv, _⟩ := rdVals_at hs hd
  have hc := notEv_hit (cs := []) (rdVal_of hv)
  constructor
  · intro h
    rw [h] at hc
    generalize callOf [notEvC] = call at hc
    generalize hr : evCode Try.prog call lf 19 none (cAt Try.f96 pIF) env [] H = out
    simp [pIF, Try.f96, e0, e1, e7, e8, c1, hi, ix, lv, callA, hc] at hr
    subst hr
    exact ⟨_, rfl, by simp⟩
  · intro h
    rw [h] at hc
    generalize callOf [notEvC] = call at hc
    generalize hr : evCode Try.prog call lf 19 none (cAt Try.f96 pIF) env [] H = out
    simp [pIF, Try.f96, e0, e1, e7, e8, c1, hi, ix, lv, callA, hc, w1] at hr
    subst hr
    exact ⟨_, rfl, by simp [e0], by simp [e1], by simp [e7], by simp⟩
theorem if_loop {lf : Nat} {H : Heap} {s : Value} {l : List ValD} (hs : rdVals H s = some l) (hb : l.length < 1099511627776) :
    ∀ (d i m : Nat) (env : Env), d < m → l.length = i + d → env.val 0 = s → env.val 1 = .func (.func 90) #[] #[] → env.val 7 = .int .i64 l.length → env.val 8 = .int .i64 i →
    ((l.drop i).all (fun d => isEv d.kind) = false → ∃ env' j, evLoop Try.prog (callOf [notEvC]) lf 19 none (cAt Try.f96 pIF) m env [] H = some (.ret, env', [], H) ∧ env'.val 4 = .int .i64 ((j : Nat) : Int)) ∧
    ((l.drop i).all (fun d => isEv d.kind) = true → ∃ env', evLoop Try.prog (callOf [notEvC]) lf 19 none (cAt Try.f96 pIF) m env [] H = some (.exit 0, env', [], H))
  | d, i, 0, env, hm, _, _, _, _, _ => by omega
  | 0, i, m + 1, env, hm, hd, e0, e1, e7, e8 => by
    obtain ⟨env', he⟩ := if_exit (call := callOf [notEvC]) (lf := lf) (H := H) e7 e8 (by omega)
    simp only [evLoop_succ, he]
    rw [List.drop_eq_nil_of_le (by omega)]
    exact ⟨fun h => by simp at h, fun _ => ⟨_, rfl⟩⟩
  | d + 1, i, m + 1, env, hm, hd, e0, e1, e7, e8 => by
    have hx := List.getElem?_eq_getElem (l := l) (i := i) (by omega)
    have hdr := List.drop_eq_getElem_cons (l := l) (i := i) (by omega)
    obtain ⟨g1, g2⟩ := if_step (lf := lf) hs hx rfl hb e0 e1 e7 e8
    rw [hdr, List.all_cons]
    cases h : isEv (l[i]'(by omega)).kind with
    | false =>
      obtain ⟨env', he, u4⟩ := g1 h
      simp only [evLoop_succ, he]
      exact ⟨fun _ => ⟨env', i, rfl, u4⟩, fun hq => by simp at hq⟩
    | true =>
      obtain ⟨env', he, u0, u1, u7, u8⟩ := g2 h
      obtain ⟨r1, r2⟩ := if_loop (lf := lf) hs hb d (i + 1) m env' (by omega) (by omega) (u0.trans e0) (u1.trans e1) (u7.trans e7) u8
      simp only [evLoop_succ, he, Bool.true_and]
      exact ⟨r1, r2⟩
theorem indexF_run {lf : Nat} {H : Heap} {s : Value} {l : List ValD} (hs : rdVals H s = some l) (hb : l.length < 1099511627776) (hlf : l.length < lf) :
    ∃ r : Int, evFn Try.prog (callOf [notEvC]) lf 96 [s, .func (.func 90) #[] #[]] H = some (.ret (.int .i64 r), H) ∧ (decide (0 ≤ r) = !l.all fun d => isEv d.kind) := by
  have hl := rdVals_len hs 23 Try.underlying23
  generalize hE : evFn Try.prog (callOf [notEvC]) lf 96 [s, .func (.func 90) #[] #[]] H = out
  have hr := hE
  simp [Try.f96, hl] at hr
  generalize hL : evLoop _ _ _ _ _ _ _ _ _ _ = L at hr
  have aux : ∀ env, evLoop Try.prog (callOf [notEvC]) lf 19 none (cAt Try.f96 pIF) lf env [] H = L → env.val 0 = s → env.val 1 = .func (.func 90) #[] #[] → env.val 7 = .int .i64 l.length → env.val 8 = .int .i64 (0 : Nat) →
      (l.all (fun d => isEv d.kind) = false → ∃ env' j, L = some (.ret, env', [], H) ∧ env'.val 4 = .int .i64 ((j : Nat) : Int)) ∧ (l.all (fun d => isEv d.kind) = true → ∃ env', L = some (.exit 0, env', [], H)) := by
    intro env hL e0 e1 e7 e8
    have := if_loop (lf := lf) hs hb l.length 0 lf env hlf (by omega) e0 e1 e7 e8
    rw [hL] at this
    simpa using this
  obtain ⟨g1, g2⟩ := aux _ hL (by simp) (by simp) (by simp) (by simp)
  cases h : l.all (fun d => isEv d.kind) with
  | false =>
    obtain ⟨env', j, rfl, u4⟩ := g1 h
    exact ⟨j, by simpa [u4] using hr.symm, by simp⟩
  | true =>
    obtain ⟨env', rfl⟩ := g2 h
    exact ⟨-1, by simpa using hr.symm, by simp⟩
noncomputable def callCF (n : Nat) : CallF := ev1 Try.prog (ev1 Try.prog (callOf [notEvC]) (n + 1)) 0
theorem callCF_ok (n : Nat) : CallOk Try.prog (callCF n) := ev1_sound (ev1_sound (callOf_ok _))
theorem contains_run {H : Heap} {s : Value} {l : List ValD} (hl : rdVals H s = some l) (hb : l.length < 1099511627776) : callCF l.length (.fn 89 [s, .func (.func 90) #[] #[]]) H = some (.ret (.bool (!l.all fun d => isEv d.kind)), H) := by
  obtain ⟨r, c96, hrr⟩ := indexF_run (lf := l.length + 1) hl hb (by omega)
  have c96' : ev1 Try.prog (callOf [notEvC]) (l.length + 1) (.fn 96 [s, .func (.func 90) #[] #[]]) H = some (.ret (.int .i64 r), H) := c96
  show evFn Try.prog (ev1 Try.prog (callOf [notEvC]) (l.length + 1)) 0 89 [s, .func (.func 90) #[] #[]] H = _
  generalize ev1 Try.prog (callOf [notEvC]) (l.length + 1) = call at c96'
  rw [← hrr]
  simp [Try.f89, callA, c96']

/-! ### shapes$1 .. $4 -/
def chanL (n : Nat) (l : List ValD) : Bool := decide (l.length = n) && match l with
  | d :: _ => decide (d.kind = 4)
  | [] => false
noncomputable def callSh : CallF := orC (callOf [channelC, manyC]) (ev1 Try.prog (fun _ _ => none) 0)
theorem callSh_ok : CallOk Try.prog callSh := orC_ok (callOf_ok _) (ev1_sound noCall_ok)
theorem many_run {call : CallF} {lf : Nat} {H : Heap} {m : Int} : evFn Try.prog call lf 82 [.int .i64 m] H = some (.ret (.func (.func 95) #[] #[.pointer (some ⟨H.next, 0, none⟩)]), H.push (.cells true 1 [.int .i64 m])) := by
  simp [Try.f82]
theorem callSh_many {H : Heap} {m : Int} : callSh (.fn 82 [.int .i64 m]) H = some (.ret (.func (.func 95) #[] #[.pointer (some ⟨H.next, 0, none⟩)]), H.push (.cells true 1 [.int .i64 m])) := by
  unfold callSh
  rw [orC_miss (by rw [callOf_miss (by decide), callOf_miss (by decide)]; rfl)]
  exact many_run (call := fun _ _ => none) (lf := 0)
theorem callSh_of {H : Heap} {s : Value} {l : List ValD} {b : Nat} {m : Int} (h : rdVals H s = some l) (hb : H.get b = some (.cells true 1 [.int .i64 m])) : callSh (.fn 95 [s, .pointer (some ⟨b, 0, none⟩)]) H = some (.ret (.bool (decide ((l.length : Int) = m))), H) :=
  orC_hit (by rw [callOf_miss (by decide)]; exact many_hit h hb)
theorem callSh_chan {H : Heap} {s : Value} {d : ValD} {l : List ValD} (h : rdVals H s = some (d :: l)) : callSh (.fn 86 [s]) H = some (.ret (.bool (decide (d.kind = 4))), H) := orC_hit (channel_hit h)

noncomputable def sh1C : Contract Try.prog := Contract.plain 85
  (fun args H => match args with
    | [s] => match rdVals H s with
      | some l => some (.ret (.bool (chanL 2 l)))
      | none => none
    | _ => none) (by
    intro args H res hw hr
    split at hr
    · rename_i s
      split at hr
      · rename_i l hl
        simp only [Option.some.injEq] at hr
        subst hr
        have x1 := Ext.push hw (.cells true 1 [.int .i64 2])
        have hl1 := rdVals_ext x1 hl
        have c1 := callSh_many (H := H) (m := 2)
        have c2 := callSh_of hl1 (get_push_self H _)
        refine ⟨rfl, callSh, H.push (.cells true 1 [.int .i64 2]), callSh_ok, 0, ?_, x1⟩
        match l, hl1, c2 with
        | [], hl1, c2 =>
          generalize callSh = call at c1 c2
          simp [undef, Try.f85, callA, c1, c2, chanL]
        | [d], hl1, c2 =>
          generalize callSh = call at c1 c2
          simp [undef, Try.f85, callA, c1, c2, chanL]
        | d :: d' :: [], hl1, c2 =>
          have c3 := callSh_chan hl1
          generalize callSh = call at c1 c2 c3
          simp [Try.f85, callA, c1, c2, c3, chanL]
        | d :: d' :: d'' :: l, hl1, c2 =>
          have hne : ¬ ((d :: d' :: d'' :: l).length : Int) = 2 := by simp only [List.length_cons]; omega
          have hne2 : ¬ (d :: d' :: d'' :: l).length = 2 := by simp only [List.length_cons]; omega
          rw [decide_eq_false hne] at c2
          have hch : chanL 2 (d :: d' :: d'' :: l) = false := by unfold chanL; rw [decide_eq_false hne2]; rfl
          rw [hch]
          generalize callSh = call at c1 c2
          simp [undef, Try.f85, callA, c1, c2]
      · cases hr
    · cases hr)
theorem sh1_hit {cs : List (Contract Try.prog)} {H : Heap} {s : Value} {l : List ValD} (h : rdVals H s = some l) : callOf (sh1C :: cs) (.fn 85 [s]) H = some (.ret (.bool (chanL 2 l)), H) :=
  callOf_hit rfl (by simp [sh1C, Contract.plain, h])
noncomputable def sh2C : Contract Try.prog := Contract.plain 87
  (fun args H => match args with
    | [s] => match rdVals H s with
      | some l => some (.ret (.bool (chanL 1 l)))
      | none => none
    | _ => none) (by
    intro args H res hw hr
    split at hr
    · rename_i s
      split at hr
      · rename_i l hl
        simp only [Option.some.injEq] at hr
        subst hr
        have x1 := Ext.push hw (.cells true 1 [.int .i64 1])
        have hl1 := rdVals_ext x1 hl
        have c1 := callSh_many (H := H) (m := 1)
        have c2 := callSh_of hl1 (get_push_self H _)
        refine ⟨rfl, callSh, H.push (.cells true 1 [.int .i64 1]), callSh_ok, 0, ?_, x1⟩
        match l, hl1, c2 with
        | [], hl1, c2 =>
          generalize callSh = call at c1 c2
          simp [undef, Try.f87, callA, c1, c2, chanL]
        | [d], hl1, c2 =>
          have c3 := callSh_chan hl1
          generalize callSh = call at c1 c2 c3
          simp [Try.f87, callA, c1, c2, c3, chanL]
        | d :: d' :: l, hl1, c2 =>
          have hne : ¬ ((d :: d' :: l).length : Int) = 1 := by simp only [List.length_cons]; omega
          have hne2 : ¬ (d :: d' :: l).length = 1 := by simp only [List.length_cons]; omega
          rw [decide_eq_false hne] at c2
          have hch : chanL 1 (d :: d' :: l) = false := by unfold chanL; rw [decide_eq_false hne2]; rfl
          rw [hch]
          generalize callSh = call at c1 c2
          simp [undef, Try.f87, callA, c1, c2]
      · cases hr
    · cases hr)
theorem sh2_hit {cs : List (Contract Try.prog)} {H : Heap} {s : Value} {l : List ValD} (h : rdVals H s = some l) : callOf (sh2C :: cs) (.fn 87 [s]) H = some (.ret (.bool (chanL 1 l)), H) :=
  callOf_hit rfl (by simp [sh2C, Contract.plain, h])
def chooseL (l : List ValD) : Bool := decide (l.length ≤ 16) && l.all fun d => isEv d.kind
noncomputable def sh3C : Contract Try.prog := Contract.plain 88
  (fun args H => match args with
    | [s] => match rdVals H s with
      | some l => some (.ret (.bool (chooseL l)))
      | none => none
    | _ => none) (by
    intro args H res hw hr
    split at hr
    · rename_i s
      split at hr
      · rename_i l hl
        simp only [Option.some.injEq] at hr
        subst hr
        have hlen := rdVals_len hl 23 Try.underlying23
        refine ⟨rfl, callCF l.length, H, callCF_ok _, 0, ?_, Ext.refl H⟩
        by_cases h : l.length ≤ 16
        · have hc := contains_run hl (by omega)
          have h' : (l.length : Int) ≤ 16 := by omega
          generalize callCF l.length = call at hc
          cases hall : l.all (fun d => isEv d.kind) with
          | true => rw [hall] at hc; simp [Try.f88, hlen, h', h, callA, hc, chooseL, hall]
          | false => rw [hall] at hc; simp [Try.f88, hlen, h', h, callA, hc, chooseL, hall]
        · have h' : ¬ (l.length : Int) ≤ 16 := by omega
          simp [undef, Try.f88, hlen, h', h, chooseL]
      · cases hr
    · cases hr)
theorem sh3_hit {cs : List (Contract Try.prog)} {H : Heap} {s : Value} {l : List ValD} (h : rdVals H s = some l) : callOf (sh3C :: cs) (.fn 88 [s]) H = some (.ret (.bool (chooseL l)), H) :=
  callOf_hit rfl (by simp [sh3C, Contract.plain, h])
end Go.Proofs.Ytgopamojnoefiaa

namespace Go.Proofs.Ytgopamojnoefiaa
open Go Go.Abs
set_option maxRecDepth 100000
set_option linter.unusedSimpArgs false
set_option linter.unusedVariables false

/-- l[1:len(l):len(l)]. -/
theorem tail3 {H : Heap} {s : Value} {d : ValD} {l : List ValD} (h : rdVals H s = some (d :: l)) (hn : l.length < 1099511627776) :
    ∃ v', sliceA Try.prog 23 s (some 1) (some ((l.length : Int) + 1)) (some ((l.length : Int) + 1)) H = some v' ∧ rdVals H v' = some l := by
  obtain ⟨xs, h1, h2, h3, hq⟩ := rdVals_inv h
  simp only [List.length_cons] at h2
  obtain ⟨b, off, c, own, es', cs, rfl, hg, hc, hl, hxs⟩ := rdS_some h1 (i := 0) (by omega)
  have he : elemA Try.prog 23 = some (25, Try.t25) := elem23
  have hcap : l.length + 1 ≤ capA xs.length c := by omega
  simp only [sliceA, he]
  rw [if_pos ⟨rfl, by simp, by simp only [Option.getD_some]; omega, by simp, by rw [h2] at hcap ⊢; omega, by rw [BIG_val]; omega⟩]
  have hxt : xs.tail = chunks 3 l.length ((cs.drop off).drop 3) := by
    rw [h2] at hxs
    rw [hxs, chunks, List.tail_cons]
  have hvs : ∀ v', rdS H 3 v' = some xs.tail → sliceOk H 3 v' → rdVals H v' = some l := fun v' hv hq' => rdVals_of (xs := xs.tail) ⟨hv, by simp [h2], fun i x v hx hvv => h3 (i + 1) x v (by rw [List.getElem?_tail] at hx; exact hx) (by simpa using hvv), hq'⟩
  by_cases h0 : l.length = 0
  · refine ⟨_, rfl, hvs _ ?_ (.inl (by rw [BIG_val]; simp only [Option.getD_some]; omega))⟩
    have : ((l.length : Int) + 1 = 1) := by omega
    simp only [Option.getD_some, this, if_true]
    simp only [rdS, hg]
    have hx0 : xs.tail = [] := by rw [hxt, h0]; rfl
    rw [hx0]
    rw [if_pos ⟨by simp [capA], by simp; omega⟩]
    simp [chunks]
  · refine ⟨_, rfl, hvs _ ?_ (.inl (by rw [BIG_val]; simp only [Option.getD_some]; omega))⟩
    have hne : ¬ ((l.length : Int) + 1 = 1) := by omega
    simp only [Option.getD_some, if_neg hne]
    have e1 : ((l.length : Int) + 1 - 1).toNat = l.length := by omega
    rw [e1]
    simp only [rdS, hg, size25]
    have hcl : capA l.length l.length = l.length := by unfold capA; split <;> rfl
    rw [if_pos ⟨by rw [hcl]; exact Nat.le_refl _, by simp; omega⟩, hxt, List.drop_drop]
    simp
def wrapL (l : List ValD) : Bool := match l with
  | d :: r => isEv d.kind && decide (r.length ≤ 8)
  | [] => false
noncomputable def sh4C : Contract Try.prog := Contract.plain 92
  (fun args H => match args with
    | [s] => match rdVals H s with
      | some l => if l.length < 1099511627776 then some (.ret (.bool (wrapL l))) else none
      | none => none
    | _ => none) (by
    intro args H res hw hr
    split at hr
    · rename_i s
      split at hr
      · rename_i l hl
        split at hr
        · rename_i hb
          simp only [Option.some.injEq] at hr
          subst hr
          have hlen := rdVals_len hl 23 Try.underlying23
          match l, hl, hlen, hb with
          | [], hl, hlen, hb =>
            exact ⟨rfl, fun _ _ => none, H, noCall_ok, 0, by simp [undef, Try.f92, hlen, wrapL], Ext.refl H⟩
          | d :: r, hl, hlen, hb =>
            simp only [List.length_cons] at hlen hb
            obtain ⟨s', ix, _, lv, hv, _⟩ := rdVals_at hl (i := 0) rfl
            simp at ix lv
            have c1 := event_hit (cs := [argsC]) (rdVal_of hv)
            obtain ⟨v', sl, ht⟩ := tail3 hl (by omega)
            have c2 : callOf [eventC, argsC] (.fn 93 [v']) H = some (.ret (.bool (decide (r.length ≤ 8))), H) := by rw [callOf_miss (by decide)]; exact args_hit ht
            refine ⟨rfl, callOf [eventC, argsC], H, callOf_ok _, 0, ?_, Ext.refl H⟩
            generalize callOf [eventC, argsC] = call at c1 c2
            have hp : (0 : Int) < (r.length : Int) + 1 := by omega
            simp only [Int.natCast_add, Int.natCast_one] at hlen
            cases he : isEv d.kind with
            | true =>
              rw [he] at c1
              simp [Try.f92, hlen, hp, ix, lv, callA, c1, sl, c2, wrapL, he]
            | false =>
              rw [he] at c1
              simp [undef, Try.f92, hlen, hp, ix, lv, callA, c1, wrapL, he]
        · cases hr
      · cases hr
    · cases hr)
theorem sh4_hit {cs : List (Contract Try.prog)} {H : Heap} {s : Value} {l : List ValD} (h : rdVals H s = some l) (hb : l.length < 1099511627776) : callOf (sh4C :: cs) (.fn 92 [s]) H = some (.ret (.bool (wrapL l)), H) :=
  callOf_hit rfl (by simp [sh4C, Contract.plain, h, hb])

/-! ### The table of shapes (72) -/
def numF (k : Nat) : Nat := if k = 2 then 83 else if k = 4 ∨ k = 13 then 84 else if k = 10 ∨ k = 11 ∨ k = 12 then 91 else 81
def numL (k : Nat) (n : Int) : Bool := if k = 2 then true else if k = 4 ∨ k = 13 then decide (0 ≤ n) else if k = 10 ∨ k = 11 ∨ k = 12 then decide (0 ≤ n ∧ n < 64) else decide (n = 0)
/-- Which box of 'many' a Kind's function holds, counted from the first; and its number. -/
def valL (k : Nat) (l : List ValD) : Bool := match k with
  | 1 | 2 | 4 | 8 | 13 => decide (l.length = 0)
  | 3 => decide (l.length = 2)
  | 5 => chanL 2 l
  | 6 => chanL 1 l
  | 7 => decide (l.length = 1)
  | 9 => chooseL l
  | 10 => wrapL l
  | 11 | 12 => decide (l.length ≤ 8)
  | _ => false
def mf (b : Nat) : Value := .func (.func 95) #[] #[.pointer (some ⟨b, 0, none⟩)]
def ff (f : Nat) : Value := .func (.func f) #[] #[]
def valF (n : Nat) (k : Nat) : Value := match k with
  | 0 => mf n
  | 1 => mf (n + 1)
  | 2 => mf (n + 1 + 1)
  | 3 => mf (n + 1 + 1 + 1)
  | 4 => mf (n + 1 + 1 + 1 + 1)
  | 5 => ff 85
  | 6 => ff 87
  | 7 => mf (n + 1 + 1 + 1 + 1 + 1)
  | 8 => mf (n + 1 + 1 + 1 + 1 + 1 + 1)
  | 9 => ff 88
  | 10 => ff 92
  | 11 => ff 93
  | 12 => ff 93
  | _ => mf (n + 1 + 1 + 1 + 1 + 1 + 1 + 1)
def tabCells (n : Nat) : List Value := (List.range 14).flatMap fun k => [ff (numF k), valF n k]
/-- The boxes that the table's functions hold. -/
noncomputable def boxes (H : Heap) : Heap := (((((((H.push (.cells true 1 [.int .i64 (-1)])).push (.cells true 1 [.int .i64 0])).push (.cells true 1 [.int .i64 0])).push (.cells true 1 [.int .i64 2])).push (.cells true 1 [.int .i64 0])).push (.cells true 1 [.int .i64 1])).push (.cells true 1 [.int .i64 0])).push (.cells true 1 [.int .i64 0])
noncomputable def tabHeap (H : Heap) : Heap := (boxes (H.push (.cells true 28 (List.replicate 28 .nilFunc)))).set H.next (.cells true 28 (tabCells (H.next + 1)))
end Go.Proofs.Ytgopamojnoefiaa

namespace Go.Proofs.Ytgopamojnoefiaa
open Go Go.Abs
set_option maxRecDepth 100000
set_option linter.unusedSimpArgs false
set_option linter.unusedVariables false

theorem zero92 : zeroA Try.prog 92 = some (.agg (List.replicate 28 Value.nilFunc).toArray, 28) := by kernel_rfl
theorem built91 {f g : Fn} {x y z w : Array Value} : Try.prog.built 91 [(0, .func f x y), (1, .func g z w)] = some #[.func f x y, .func g z w] := by kernel_rfl
theorem built92 {a0 b0 a1 b1 a2 b2 a3 b3 a4 b4 a5 b5 a6 b6 a7 b7 a8 b8 a9 b9 a10 b10 a11 b11 a12 b12 a13 b13 : Value} : Try.prog.built 92 [(0, .agg #[a0, b0]), (1, .agg #[a1, b1]), (2, .agg #[a2, b2]), (3, .agg #[a3, b3]), (4, .agg #[a4, b4]), (5, .agg #[a5, b5]), (6, .agg #[a6, b6]), (7, .agg #[a7, b7]), (8, .agg #[a8, b8]), (9, .agg #[a9, b9]), (10, .agg #[a10, b10]), (11, .agg #[a11, b11]), (12, .agg #[a12, b12]), (13, .agg #[a13, b13])] = some #[a0, b0, a1, b1, a2, b2, a3, b3, a4, b4, a5, b5, a6, b6, a7, b7, a8, b8, a9, b9, a10, b10, a11, b11, a12, b12, a13, b13] := by kernel_rfl
theorem boxes_next (H : Heap) : (boxes H).next = H.next + 8 := rfl
theorem shapes_run {lf : Nat} {H : Heap} : evFn Try.prog (ev1 Try.prog (fun _ _ => none) 0) lf 72 [] H = some (.ret (.agg (tabCells (H.next + 1)).toArray), tabHeap H) := by
  have hm : ∀ (m : Int) (H : Heap), ev1 Try.prog (fun _ _ => none) 0 (.fn 82 [.int .i64 m]) H = some (.ret (.func (.func 95) #[] #[.pointer (some ⟨H.next, 0, none⟩)]), H.push (.cells true 1 [.int .i64 m])) := fun m H => many_run (call := fun _ _ => none) (lf := 0)
  generalize ev1 Try.prog (fun _ _ => none) 0 = call at hm
  have st : storeA Try.prog 92 (boxes (H.push (.cells true 28 (List.replicate 28 .nilFunc)))) H.next 0 (.agg (tabCells (H.next + 1)).toArray) = some (tabHeap H) := by
    have g : (boxes (H.push (.cells true 28 (List.replicate 28 .nilFunc)))).get H.next = some (.cells true 28 (List.replicate 28 .nilFunc)) := by
      unfold boxes
      iterate 8 rw [get_push_ne (by simp only [Heap.next_push]; omega)]
      exact get_push_self _ _
    simp only [storeA, g, info92, size92, cells_agg]
    rw [if_pos ⟨rfl, by simp [tabCells], by kernel_rfl⟩]
    rfl
  have ld : loadA Try.prog 92 (tabHeap H) H.next 0 = some (.agg (tabCells (H.next + 1)).toArray) := by
    have g : (tabHeap H).get H.next = some (.cells true 28 (tabCells (H.next + 1))) := get_set_self _ _ _
    simp only [loadA, g, info92, size92]
    rfl
  simp [tabCells, List.range, List.range.loop, ff, mf, numF, valF, boxes] at st ld
  simp [Try.f72, zero92, callA, hm, built91, built92, st, ld, tabCells, List.range, List.range.loop, ff, mf, numF, valF]
end Go.Proofs.Ytgopamojnoefiaa

namespace Go.Proofs.Ytgopamojnoefiaa
open Go Go.Abs
set_option maxRecDepth 100000
set_option linter.unusedSimpArgs false
set_option linter.unusedVariables false

/-! ### What the table's functions say -/
noncomputable def c49 : List (Contract Try.prog) := [zeroC, anyC, placeC, functionC, mustC, manyC, sh1C, sh2C, sh3C, sh4C, argsC]
theorem num_call {k : Nat} {n : Int} {H : Heap} : callOf c49 (.fn (numF k) [.int .i64 n]) H = some (.ret (.bool (numL k n)), H) := by
  unfold numF numL c49
  split
  · rw [callOf_miss (by decide)]; exact callOf_hit rfl rfl
  split
  · rw [callOf_miss (by decide), callOf_miss (by decide)]; exact callOf_hit rfl rfl
  split
  · rw [callOf_miss (by decide), callOf_miss (by decide), callOf_miss (by decide)]; exact callOf_hit rfl rfl
  · exact callOf_hit rfl rfl
theorem must_call {b : Bool} {n : Int} {H : Heap} : callOf c49 (.fn 73 [.bool b, .int .i64 n]) H = some (bif b then .ret (.tuple #[]) else .pan (.iface 28 (.int .i64 n)), H) := by
  unfold c49
  rw [callOf_miss (by decide), callOf_miss (by decide), callOf_miss (by decide), callOf_miss (by decide)]
  exact callOf_hit rfl rfl

def vg (k : Nat) : Nat := match k with
  | 5 => 85
  | 6 => 87
  | 9 => 88
  | 10 => 92
  | 11 => 93
  | 12 => 93
  | _ => 95
def vc (n k : Nat) : List Value := match k with
  | 0 => [.pointer (some ⟨n, 0, none⟩)]
  | 1 => [.pointer (some ⟨n + 1, 0, none⟩)]
  | 2 => [.pointer (some ⟨n + 1 + 1, 0, none⟩)]
  | 3 => [.pointer (some ⟨n + 1 + 1 + 1, 0, none⟩)]
  | 4 => [.pointer (some ⟨n + 1 + 1 + 1 + 1, 0, none⟩)]
  | 5 => []
  | 6 => []
  | 7 => [.pointer (some ⟨n + 1 + 1 + 1 + 1 + 1, 0, none⟩)]
  | 8 => [.pointer (some ⟨n + 1 + 1 + 1 + 1 + 1 + 1, 0, none⟩)]
  | 9 => []
  | 10 => []
  | 11 => []
  | 12 => []
  | _ => [.pointer (some ⟨n + 1 + 1 + 1 + 1 + 1 + 1 + 1, 0, none⟩)]
/-- The boxes stand. -/
structure Boxes (H : Heap) (n : Nat) : Prop where
  b0 : H.get n = some (.cells true 1 [.int .i64 (-1)])
  b1 : H.get (n + 1) = some (.cells true 1 [.int .i64 0])
  b2 : H.get (n + 1 + 1) = some (.cells true 1 [.int .i64 0])
  b3 : H.get (n + 1 + 1 + 1) = some (.cells true 1 [.int .i64 2])
  b4 : H.get (n + 1 + 1 + 1 + 1) = some (.cells true 1 [.int .i64 0])
  b5 : H.get (n + 1 + 1 + 1 + 1 + 1) = some (.cells true 1 [.int .i64 1])
  b6 : H.get (n + 1 + 1 + 1 + 1 + 1 + 1) = some (.cells true 1 [.int .i64 0])
  b7 : H.get (n + 1 + 1 + 1 + 1 + 1 + 1 + 1) = some (.cells true 1 [.int .i64 0])
theorem Boxes.ext {H H' : Heap} {n : Nat} (h : Boxes H n) (x : Ext H H') : Boxes H' n := ⟨x _ _ h.b0, x _ _ h.b1, x _ _ h.b2, x _ _ h.b3, x _ _ h.b4, x _ _ h.b5, x _ _ h.b6, x _ _ h.b7⟩
theorem boxes_at (H : Heap) : Boxes (boxes H) H.next := by
  unfold boxes
  constructor <;> (repeat first | exact get_push_self _ _ | rw [get_push_ne (by simp only [Heap.next_push]; omega)])
theorem c49_many {H : Heap} {s : Value} {l : List ValD} {b : Nat} {m : Int} (h : rdVals H s = some l) (hb : H.get b = some (.cells true 1 [.int .i64 m])) : callOf c49 (.fn 95 [s, .pointer (some ⟨b, 0, none⟩)]) H = some (.ret (.bool (decide ((l.length : Int) = m))), H) := by
  unfold c49
  rw [callOf_miss (by decide), callOf_miss (by decide), callOf_miss (by decide), callOf_miss (by decide), callOf_miss (by decide)]
  exact many_hit h hb
theorem val_call {k n : Nat} {H : Heap} {s : Value} {l : List ValD} (hk : k < 14) (hB : Boxes H n) (h : rdVals H s = some l) (hn : l.length < 1099511627776) : callOf c49 (.fn (vg k) (s :: vc n k)) H = some (.ret (.bool (valL k l)), H) := by
  have z : ∀ m : Nat, decide ((l.length : Int) = (m : Int)) = decide (l.length = m) := fun m => by rw [decide_eq_decide]; omega
  have z0 := z 0
  have z1 := z 1
  have z2 := z 2
  simp only [Int.natCast_zero, Int.natCast_one] at z0 z1
  have m0 := c49_many h hB.b0
  have m1 := c49_many h hB.b1
  have m2 := c49_many h hB.b2
  have m3 := c49_many h hB.b3
  have m4 := c49_many h hB.b4
  have m5 := c49_many h hB.b5
  have m6 := c49_many h hB.b6
  have m7 := c49_many h hB.b7
  rw [z0] at m1 m2 m4 m6 m7
  rw [z1] at m5
  rw [show (2 : Int) = ((2 : Nat) : Int) from rfl, z2] at m3
  rw [decide_eq_false (by omega)] at m0
  have hh : k = 0 ∨ k = 1 ∨ k = 2 ∨ k = 3 ∨ k = 4 ∨ k = 5 ∨ k = 6 ∨ k = 7 ∨ k = 8 ∨ k = 9 ∨ k = 10 ∨ k = 11 ∨ k = 12 ∨ k = 13 := by omega
  rcases hh with rfl | rfl | rfl | rfl | rfl | rfl | rfl | rfl | rfl | rfl | rfl | rfl | rfl | rfl
  · exact m0
  · exact m1
  · exact m2
  · exact m3
  · exact m4
  · unfold c49 vg vc
    iterate 6 rw [callOf_miss (by decide)]
    exact sh1_hit h
  · unfold c49 vg vc
    iterate 7 rw [callOf_miss (by decide)]
    exact sh2_hit h
  · exact m5
  · exact m6
  · unfold c49 vg vc
    iterate 8 rw [callOf_miss (by decide)]
    exact sh3_hit h
  · unfold c49 vg vc
    iterate 9 rw [callOf_miss (by decide)]
    exact sh4_hit h hn
  · unfold c49 vg vc
    iterate 10 rw [callOf_miss (by decide)]
    exact args_hit h
  · unfold c49 vg vc
    iterate 10 rw [callOf_miss (by decide)]
    exact args_hit h
  · exact m7

/-- A part may be, by itself. -/
def shapeL (d : ValD) : Bool := decide (0 ≤ d.kind ∧ d.kind < 14) && (numL d.kind.toNat d.num && valL d.kind.toNat d.own)
theorem tab_at {n k : Nat} (hk : k < 14) : (tabCells n)[k * 2]? = some (.func (.func (numF k)) #[] #[]) ∧ (tabCells n)[k * 2 + 1]? = some (.func (.func (vg k)) #[] (vc n k).toArray) := by
  have hh : k = 0 ∨ k = 1 ∨ k = 2 ∨ k = 3 ∨ k = 4 ∨ k = 5 ∨ k = 6 ∨ k = 7 ∨ k = 8 ∨ k = 9 ∨ k = 10 ∨ k = 11 ∨ k = 12 ∨ k = 13 := by omega
  rcases hh with rfl | rfl | rfl | rfl | rfl | rfl | rfl | rfl | rfl | rfl | rfl | rfl | rfl | rfl <;> exact ⟨rfl, rfl⟩
end Go.Proofs.Ytgopamojnoefiaa

namespace Go.Proofs.Ytgopamojnoefiaa
open Go Go.Abs
set_option maxRecDepth 100000
set_option linter.unusedSimpArgs false
set_option linter.unusedVariables false

theorem bodied_tab {k : Nat} (hk : k < 14) : bodied Try.prog (numF k) = true ∧ bodied Try.prog (vg k) = true := by
  have hh : k = 0 ∨ k = 1 ∨ k = 2 ∨ k = 3 ∨ k = 4 ∨ k = 5 ∨ k = 6 ∨ k = 7 ∨ k = 8 ∨ k = 9 ∨ k = 10 ∨ k = 11 ∨ k = 12 ∨ k = 13 := by omega
  rcases hh with rfl | rfl | rfl | rfl | rfl | rfl | rfl | rfl | rfl | rfl | rfl | rfl | rfl | rfl <;> exact ⟨by kernel_rfl, by kernel_rfl⟩
/-! ### right (49): a part -/
def pRi : List Nat := [1, 1, 0, 0, 1, 1, 0, 0, 1, 1, 1, 1, 0, 0]
theorem index92 {b k : Nat} (hk : k < 14) : indexAddrA Try.prog 92 (.pointer (some ⟨b, 0, none⟩)) (k : Int) = some (.pointer (some ⟨b, k * 2, none⟩)) := by
  simp only [indexAddrA, Try.underlying92, info91, size91]
  rw [if_pos ⟨by omega, by omega⟩]
  simp
theorem ri_exit {call : CallF} {lf : Nat} {env : Env} {ds : List ADef} {H : Heap} {i n : Nat} (e24 : env.val 24 = .int .i64 n) (e25 : env.val 25 = .int .i64 i) (hi : n ≤ i) :
    ∃ env', evCode Try.prog call lf 66 none (cAt Try.f49 pRi) env ds H = some (.exit 2, env', ds, H) ∧ env'.val 2 = env.val 2 ∧ env'.val 10 = env.val 10 ∧ env'.val 11 = env.val 11 ∧ env'.val 12 = env.val 12 := by
  have c1 : ¬ (i : Int) < (n : Int) := by omega
  generalize hr : evCode Try.prog call lf 66 none (cAt Try.f49 pRi) env ds H = out
  simp [pRi, Try.f49, e24, e25, c1, hi] at hr
  subst hr
  exact ⟨_, rfl, by simp, by simp, by simp, by simp⟩

/-- A block of its own with a part in it. -/
noncomputable def partIn (H : Heap) (k n : Int) (s : Value) (dp : Int) : Heap := (H.push (.cells true 4 [.int .i64 0, .int .i64 0, .slice none 0 0, .int .i64 0])).set H.next (.cells true 4 [.int .i64 k, .int .i64 n, s, .int .i64 dp])
theorem partIn_next (H : Heap) (k n : Int) (s : Value) (dp : Int) : (partIn H k n s dp).next = H.next + 1 := rfl
theorem partIn_kept {H : Heap} (hw : H.Wf) (k n : Int) (s : Value) (dp : Int) : Kept H (partIn H k n s dp) none := ((Kept.refl hw none).push _).set (Nat.le_refl _) (by simp) _
theorem partIn_self (H : Heap) (k n : Int) (s : Value) (dp : Int) : (partIn H k n s dp).get H.next = some (.cells true 4 [.int .i64 k, .int .i64 n, s, .int .i64 dp]) := get_set_self _ _ _
theorem store75 {H : Heap} {k n dp : Int} {s : Value} (hs : oneC s = true) : storeA Try.prog 75 (H.push (.cells true 4 [.int .i64 0, .int .i64 0, .slice none 0 0, .int .i64 0])) H.next 0 (.agg #[.int .i64 k, .int .i64 n, s, .int .i64 dp]) = some (partIn H k n s dp) := by
  have hg := get_push_self H (.cells true 4 [.int .i64 0, .int .i64 0, .slice none 0 0, .int .i64 0])
  simp [storeA, hg, hs, putL]
  rfl

theorem ri_step {call : CallF} {lf : Nat} {env : Env} {ds : List ADef} {H : Heap} {i n bt nb : Nat} {w s : Value} {ps : List (List Value)} {d : ValD} {dp : Int} (hw : H.Wf)
    (e2 : env.val 2 = .pointer (some ⟨bt, 0, none⟩)) (e23 : env.val 23 = w) (e24 : env.val 24 = .int .i64 n) (e25 : env.val 25 = .int .i64 i) (hp : rdS H 4 w = some ps) (hpn : ps.length = n) (hn : n ≤ 1000) (hx : ps[i]? = some [.int .i64 d.kind, .int .i64 d.num, s, .int .i64 dp])
    (hv : VAt H d [.int .i64 d.kind, .int .i64 d.num, s]) (ht : H.get bt = some (.cells true 28 (tabCells nb))) (hB : Boxes H nb) (ho : d.own.length < 1099511627776)
    (hc : ∀ f args K r, callOf c49 (.fn f args) K = some r → call (.fn f args) K = some r) :
    (shapeL d = true → ∃ env', evCode Try.prog call lf 66 none (cAt Try.f49 pRi) env ds H = some (.normal, env', ds, partIn H d.kind d.num s dp) ∧ env'.val 2 = env.val 2 ∧ env'.val 10 = env.val 10 ∧ env'.val 11 = env.val 11 ∧ env'.val 12 = env.val 12 ∧ env'.val 23 = env.val 23 ∧ env'.val 24 = env.val 24 ∧ env'.val 25 = .int .i64 ((i + 1 : Nat) : Int)) ∧
    (shapeL d = false → ∃ env', evCode Try.prog call lf 66 none (cAt Try.f49 pRi) env ds H = some (.panic (.iface 28 (.int .i64 40)), env', ds, partIn H d.kind d.num s dp)) := by
  have hi := (List.getElem?_eq_some_iff.1 hx).1
  have c1 : (i : Int) < (n : Int) := by omega
  have hin : i < n := by omega
  have w1 : IntKind.i64.wrap ((i : Int) + 1) = (i : Int) + 1 := wrapI (by omega) (by omega)
  have ix := rdS_index hp Try.underlying66 info75 (by simp) (n := (i : Int)) (by omega) (by omega)
  simp only [Int.toNat_natCast] at ix
  have lx := rdS_loadA hp hx (t := 75) info75 (by simp) Try.underlying75 rfl
  obtain ⟨s', e, ⟨os1, os2, os3⟩⟩ : ∃ s', [Value.int .i64 d.kind, .int .i64 d.num, s] = [.int .i64 d.kind, .int .i64 d.num, s'] ∧ s'.cells = #[s'] ∧ oneC s' = true ∧ eqV s' s' = true := by
    obtain ⟨s', e, a, b, c, _⟩ := hv.one
    exact ⟨s', e, a, b, c⟩
  simp only [List.cons.injEq, true_and, and_true] at e
  subst e
  have st := store75 (H := H) (k := d.kind) (n := d.num) (dp := dp) os2
  have kp := partIn_kept hw d.kind d.num s dp
  have gp := partIn_self H d.kind d.num s dp
  have xp := kp.ext hw
  have ht' := xp _ _ ht
  have hB' := hB.ext xp
  obtain ⟨sv, xs, e', hs, hl, hh, hq⟩ := (hv.ext xp).inv
  simp only [List.cons.injEq, true_and, and_true] at e'
  subst e'
  have hvals : rdVals (partIn H d.kind d.num s dp) s = some d.own := rdVals_of ⟨hs, hl, hh, hq⟩
  have lk : loadA Try.prog 22 (partIn H d.kind d.num s dp) H.next 0 = some (.int .i64 d.kind) := by simp [loadA, gp]
  have ln : loadA Try.prog 2 (partIn H d.kind d.num s dp) H.next 1 = some (.int .i64 d.num) := by simp [loadA, gp]
  have ls : loadA Try.prog 23 (partIn H d.kind d.num s dp) H.next 2 = some s := by simp [loadA, gp]
  have hnx := partIn_next H d.kind d.num s dp
  have cm : ∀ b K, call (.fn 73 [.bool b, .int .i64 40]) K = some (bif b then .ret (.tuple #[]) else .pan (.iface 28 (.int .i64 40)), K) := fun b K => hc _ _ _ _ must_call
  have cmt := cm true (partIn H d.kind d.num s dp)
  have cmf := cm false (partIn H d.kind d.num s dp)
  simp only [cond_true, cond_false] at cmt cmf
  generalize partIn H d.kind d.num s dp = K at *
  by_cases hr0 : 0 ≤ d.kind ∧ d.kind < 14
  · obtain ⟨k, hk⟩ : ∃ k : Nat, d.kind = (k : Int) := ⟨d.kind.toNat, by omega⟩
    have hk14 : k < 14 := by omega
    have i92 := index92 (b := bt) hk14
    obtain ⟨t1, t2⟩ := tab_at (n := nb) hk14
    have ltn : loadA Try.prog 88 K bt (k * 2) = some (.func (.func (numF k)) #[] #[]) := by simp [loadA, ht', t1]
    have ltv : loadA Try.prog 89 K bt (k * 2 + 1) = some (.func (.func (vg k)) #[] (vc nb k).toArray) := by simp [loadA, ht', t2]
    have cn := hc _ _ _ _ (num_call (k := k) (n := d.num) (H := K))
    have cv := hc _ _ _ _ (val_call hk14 hB' hvals ho)
    have hsh : shapeL d = (numL k d.num && valL k d.own) := by
      unfold shapeL
      rw [decide_eq_true hr0, Bool.true_and, hk, Int.toNat_natCast]
    rw [hk] at lk lx st hx
    have g1 : (0 : Int) ≤ (k : Int) := by omega
    have g2 : (k : Int) < 14 := by omega
    obtain ⟨bn, bv⟩ := bodied_tab hk14
    rw [hsh]
    cases hnl : numL k d.num with
    | false =>
      rw [hnl] at cn
      refine ⟨(fun h => by simp at h), fun _ => ?_⟩
      generalize hr : evCode Try.prog call lf 66 none (cAt Try.f49 pRi) env ds H = out
      simp [pRi, Try.f49, e2, e23, e24, e25, c1, hin, ix, lx, st] at hr
      rw [evDraw_tab (tab := []), drawPan_tab (tab := [])] at hr
      · simp [e2, lk, ln, ls, g2, hk14, i92, ltn, bn, callA, cn, cmf, undef] at hr
        subst hr
        exact ⟨_, rfl⟩
      · kernel_rfl
      · kernel_rfl
      · kernel_rfl
      · kernel_rfl
    | true =>
      rw [hnl] at cn
      cases hvl : valL k d.own with
      | false =>
        rw [hvl] at cv
        refine ⟨(fun h => by simp at h), fun _ => ?_⟩
        generalize hr : evCode Try.prog call lf 66 none (cAt Try.f49 pRi) env ds H = out
        simp [pRi, Try.f49, e2, e23, e24, e25, c1, hin, ix, lx, st] at hr
        rw [evDraw_tab (tab := []), drawPan_tab (tab := [])] at hr
        · simp [e2, lk, ln, ls, g2, hk14, i92, ltn, ltv, bn, bv, callA, cn, cv, cmf, undef] at hr
          subst hr
          exact ⟨_, rfl⟩
        · kernel_rfl
        · kernel_rfl
        · kernel_rfl
        · kernel_rfl
      | true =>
        rw [hvl] at cv
        refine ⟨fun _ => ?_, (fun h => by simp at h)⟩
        generalize hr : evCode Try.prog call lf 66 none (cAt Try.f49 pRi) env ds H = out
        simp [pRi, Try.f49, e2, e23, e24, e25, c1, hin, ix, lx, st] at hr
        rw [evDraw_tab (tab := [])] at hr
        · simp [e2, e25, lk, ln, ls, g2, hk14, i92, ltn, ltv, bn, bv, callA, cn, cv, cmt, w1] at hr
          subst hr
          exact ⟨_, rfl, by simp [e2], by simp, by simp, by simp, by simp [e23], by simp [e24], by simp⟩
        · kernel_rfl
        · kernel_rfl
  · have hsh : shapeL d = false := by unfold shapeL; rw [decide_eq_false hr0]; rfl
    rw [hsh]
    refine ⟨(fun h => by simp at h), fun _ => ?_⟩
    by_cases h0 : 0 ≤ d.kind
    · have h14 : ¬ d.kind < 14 := fun h => hr0 ⟨h0, h⟩
      generalize hr : evCode Try.prog call lf 66 none (cAt Try.f49 pRi) env ds H = out
      simp [pRi, Try.f49, e2, e23, e24, e25, c1, hin, ix, lx, st] at hr
      rw [evDraw_tab (tab := []), drawPan_tab (tab := [])] at hr
      · simp [e2, lk, h0, h14, callA, cmf, undef] at hr
        subst hr
        exact ⟨_, rfl⟩
      · kernel_rfl
      · kernel_rfl
      · kernel_rfl
      · kernel_rfl
    · generalize hr : evCode Try.prog call lf 66 none (cAt Try.f49 pRi) env ds H = out
      simp [pRi, Try.f49, e2, e23, e24, e25, c1, hin, ix, lx, st] at hr
      rw [evDraw_tab (tab := []), drawPan_tab (tab := [])] at hr
      · simp [e2, lk, h0, callA, cmf, undef] at hr
        subst hr
        exact ⟨_, rfl⟩
      · kernel_rfl
      · kernel_rfl
      · kernel_rfl
      · kernel_rfl
end Go.Proofs.Ytgopamojnoefiaa

namespace Go.Proofs.Ytgopamojnoefiaa
open Go Go.Abs
set_option maxRecDepth 100000
set_option linter.unusedSimpArgs false
set_option linter.unusedVariables false

/-! ### slices.Backward (74, 94) -/
theorem backward_run {call : CallF} {lf : Nat} {H : Heap} {s : Value} (hs : s.cells = #[s] ∧ oneC s = true) : evFn Try.prog call lf 74 [s] H = some (.ret (.func (.func 94) #[] #[.pointer (some ⟨H.next, 0, none⟩)]), H.push (.cells true 1 [s])) := by
  simp [Try.f74, hs.1, hs.2]

structure GoB (Hs : Heap) (call : CallF) (own : Value) (l : List ValD) (bo lp : Nat) (I : Nat → Heap → Prop) : Prop where
  box : ∀ j H, I j H → H.get bo = some (.cells true 1 [own])
  base : rdVals Hs own = some l
  ext : ∀ j H, I j H → Ext Hs H
  loop : ∀ j H, I j H → ∃ c : ALoop, H.get lp = some (.loop c) ∧ c.params.size = 2
  round : ∀ j H d s, I (j + 1) H → l[j]? = some d → VAt Hs d [.int .i64 d.kind, .int .i64 d.num, s] → oneC s = true → ∃ H', call (.round lp [.int .i64 (j : Int), .agg #[.int .i64 d.kind, .int .i64 d.num, s]]) H = some (.ret (.bool true), H') ∧ I j H'

def pBk : List Nat := [1, 0, 0]
theorem bk_exit {call : CallF} {lf : Nat} {env : Env} {H : Heap} (e3 : env.val 3 = .int .i64 (-1)) :
    ∃ env', evCode Try.prog call lf 19 none (cAt Try.f94 pBk) env [] H = some (.exit 0, env', [], H) := by
  generalize hr : evCode Try.prog call lf 19 none (cAt Try.f94 pBk) env [] H = out
  simp [pBk, Try.f94, e3] at hr
  subst hr
  exact ⟨_, rfl⟩
theorem bk_step {call : CallF} {lf : Nat} {env : Env} {H : Heap} {own : Value} {l : List ValD} {bo lp j : Nat} {I : Nat → Heap → Prop} {Hs : Heap} (G : GoB Hs call own l bo lp I) (hI : I (j + 1) H) (hj : j < l.length) (hn : l.length < 1099511627776)
    (e0 : env.val 0 = .func (.yield lp) #[] #[]) (e1 : env.val 1 = .pointer (some ⟨bo, 0, none⟩)) (e3 : env.val 3 = .int .i64 (j : Int)) :
    ∃ env' H', evCode Try.prog call lf 19 none (cAt Try.f94 pBk) env [] H = some (.normal, env', [], H') ∧ env'.val 0 = env.val 0 ∧ env'.val 1 = env.val 1 ∧ env'.val 3 = .int .i64 ((j : Int) - 1) ∧ I j H' := by
  have hd := List.getElem?_eq_getElem hj
  have hx := G.ext _ _ hI
  have hv := rdVals_ext hx G.base
  obtain ⟨s', ix, lv, hva, os⟩ : ∃ s', indexAddrA Try.prog 23 own (j : Int) = some (.pointer (some ⟨blk own, offs own + j * 3, none⟩)) ∧ loadA Try.prog 25 H (blk own) (offs own + j * 3) = some (.agg #[.int .i64 (l[j]'hj).kind, .int .i64 (l[j]'hj).num, s']) ∧ VAt Hs (l[j]'hj) [.int .i64 (l[j]'hj).kind, .int .i64 (l[j]'hj).num, s'] ∧ oneC s' = true := by
    obtain ⟨xs, h1⟩ := rdVals_inv G.base
    obtain ⟨s', g1, g2⟩ := h1.get hd
    have h2 := h1.ext hx
    have ix := rdS_index h2.1 Try.underlying23 info25 size25 (n := (j : Int)) (by omega) (by have := h2.2.1; omega)
    simp only [Int.toNat_natCast] at ix
    obtain ⟨_, e, _, o, _⟩ := g2.one
    simp only [List.cons.injEq, true_and, and_true] at e
    subst e
    exact ⟨s', ix, rdS_loadA h2.1 g1 (t := 25) info25 size25 Try.underlying25 rfl, g2, o⟩
  obtain ⟨c, hc1, hc2⟩ := G.loop _ _ hI
  obtain ⟨H', hr, hI'⟩ := G.round j H _ s' hI hd hva os
  have ho := rdVals_one hv
  have ld : loadA Try.prog 23 H bo 0 = some own := by simp [loadA, G.box _ _ hI, ho]
  have w1 : IntKind.i64.wrap ((j : Int) - 1) = (j : Int) - 1 := wrapI (by omega) (by omega)
  have c1 : (0 : Int) ≤ (j : Int) := by omega
  generalize hrr : evCode Try.prog call lf 19 none (cAt Try.f94 pBk) env [] H = out
  simp [pBk, Try.f94, e0, e1, e3, ld, ix, lv, callA, hc1, hc2, hr, w1] at hrr
  subst hrr
  exact ⟨_, H', rfl, by simp [e0], by simp [e1], by simp, hI'⟩
theorem bk_loop {call : CallF} {lf : Nat} {own : Value} {l : List ValD} {bo lp : Nat} {I : Nat → Heap → Prop} {Hs : Heap} (G : GoB Hs call own l bo lp I) (hn : l.length < 1099511627776) : ∀ (j m : Nat) (env : Env) (H : Heap), j < m → j ≤ l.length → I j H → env.val 0 = .func (.yield lp) #[] #[] → env.val 1 = .pointer (some ⟨bo, 0, none⟩) → env.val 3 = .int .i64 ((j : Int) - 1) →
    ∃ env' H', evLoop Try.prog call lf 19 none (cAt Try.f94 pBk) m env [] H = some (.exit 0, env', [], H') ∧ I 0 H'
  | j, 0, env, H, hm, _, _, _, _, _ => by omega
  | 0, m + 1, env, H, hm, hj, hI, e0, e1, e3 => by
    obtain ⟨env', he⟩ := bk_exit (call := call) (lf := lf) (H := H) (e3.trans (by simp))
    simp only [evLoop_succ, he]
    exact ⟨env', H, rfl, hI⟩
  | j + 1, m + 1, env, H, hm, hj, hI, e0, e1, e3 => by
    obtain ⟨env', H', he, u0, u1, u3, hI'⟩ := bk_step (lf := lf) G hI (by omega) hn e0 e1 (e3.trans (by congr 1; omega))
    obtain ⟨e2, H2, r, hI2⟩ := bk_loop G hn j m env' H' (by omega) (by omega) hI' (u0.trans e0) (u1.trans e1) u3
    simp only [evLoop_succ, he]
    exact ⟨e2, H2, r, hI2⟩
theorem bk_run {call : CallF} {lf : Nat} {own : Value} {l : List ValD} {bo lp : Nat} {I : Nat → Heap → Prop} {H Hs : Heap} (G : GoB Hs call own l bo lp I) (hn : l.length < 1099511627776) (hlf : l.length < lf) (hI : I l.length H) :
    ∃ H', evFn Try.prog call lf 94 [.func (.yield lp) #[] #[], .pointer (some ⟨bo, 0, none⟩)] H = some (.ret (.tuple #[]), H') ∧ I 0 H' := by
  have hv := rdVals_ext (G.ext _ _ hI) G.base
  have hl := rdVals_len hv 23 Try.underlying23
  have ho := rdVals_one hv
  have ld : loadA Try.prog 23 H bo 0 = some own := by simp [loadA, G.box _ _ hI, ho]
  have w1 : IntKind.i64.wrap ((l.length : Int) - 1) = (l.length : Int) - 1 := wrapI (by omega) (by omega)
  generalize hE : evFn Try.prog call lf 94 [.func (.yield lp) #[] #[], .pointer (some ⟨bo, 0, none⟩)] H = out
  have hr := hE
  simp [Try.f94, ld, hl, w1] at hr
  generalize hL : evLoop _ _ _ _ _ _ _ _ _ _ = L at hr
  have aux : ∀ env, evLoop Try.prog call lf 19 none (cAt Try.f94 pBk) lf env [] H = L → env.val 0 = .func (.yield lp) #[] #[] → env.val 1 = .pointer (some ⟨bo, 0, none⟩) → env.val 3 = .int .i64 ((l.length : Int) - 1) → ∃ env' H', L = some (.exit 0, env', [], H') ∧ I 0 H' := by
    intro env hL e0 e1 e3
    obtain ⟨env', H', h1, h2⟩ := bk_loop (call := call) (lf := lf) G hn l.length lf env H hlf (Nat.le_refl _) hI e0 e1 e3
    exact ⟨env', H', hL.symm.trans h1, h2⟩
  obtain ⟨env', H', rfl, hI'⟩ := aux _ hL (by simp) (by simp) (by simp)
  exact ⟨H', by simpa using hr.symm, hI'⟩
end Go.Proofs.Ytgopamojnoefiaa
