/-
  A part of a proof: texts laid behind one another (W22, W23, W24, W25, W26, W27, W28, W29, W30, W31, W32).
-/
import Derived.Test.YtpopkajkekceiaaGW2
import Derived.Test.YtpopkajkekceiaaGA4
import Derived.Test.YtpopkajkekceiaaGK
namespace Go.Proofs.Ytpopkajkekceiaa
open Go Go.Abs
set_option maxRecDepth 100000
set_option linter.unusedSimpArgs false
set_option linter.unusedVariables false

theorem cells3 : Try.prog.cellsOf 3 = 1 := by kernel_rfl
theorem cells2 : Try.prog.cellsOf 2 = 1 := by kernel_rfl
theorem cells37 : Try.prog.cellsOf 37 = 1 := by kernel_rfl
theorem cells38 : Try.prog.cellsOf 38 = 1 := by kernel_rfl
theorem cells22 : Try.prog.cellsOf 22 = 1 := by kernel_rfl
theorem cells40 : Try.prog.cellsOf 40 = 3 := by kernel_rfl
theorem cells24 : Try.prog.cellsOf 24 = 2 := by kernel_rfl

section
variable {D : Type} {H : Heap}
theorem AR_int {t : TypeId} {k : IntKind} (hu : Try.prog.underlying t = some (.int k)) {cs : List Value} {d : DataW D} (h : AR Try.prog H t cs d) : ∃ n, cs = [.int k n] ∧ (Lit.int k n).wf = true := by
  cases h with
  | int ht hw => rw [hu] at ht; cases ht; exact ⟨_, rfl, hw⟩
  | bool ht => rw [hu] at ht; cases ht
  | string ht _ => rw [hu] at ht; cases ht
  | sliceNil ht => rw [hu] at ht; cases ht
  | slice ht _ _ _ _ _ _ => rw [hu] at ht; cases ht
  | struct ht _ _ _ => rw [hu] at ht; cases ht

theorem AR_slice {t e : TypeId} (hu : Try.prog.underlying t = some (.slice e)) {cs : List Value} {d : DataW D} (h : AR Try.prog H t cs d) :
    ∃ v xs, cs = [v] ∧ rdS H (Try.prog.cellsOf e) v = some xs ∧ small v = true ∧ ∀ (i : Nat) x, xs[i]? = some x → ∃ d, AR (D := D) Try.prog H e x d := by
  cases h with
  | int ht hw => rw [hu] at ht; cases ht
  | bool ht => rw [hu] at ht; cases ht
  | string ht _ => rw [hu] at ht; cases ht
  | sliceNil ht => exact ⟨_, [], rfl, rfl, rfl, fun i x hx => by simp at hx⟩
  | slice ht hr hs _ hl _ hx =>
    rw [hu] at ht; cases ht
    refine ⟨_, _, rfl, hr, hs, fun i x hi => ?_⟩
    have hlt := (List.getElem?_eq_some_iff.1 hi).1
    exact ⟨_, hx i x _ hi (List.getElem?_eq_getElem (by omega))⟩
  | struct ht _ _ _ => rw [hu] at ht; cases ht

theorem AR_struct {t : TypeId} {fs : Array Field} (hu : Try.prog.underlying t = some (.struct fs)) {cs : List Value} {d : DataW D} (h : AR Try.prog H t cs d) :
    cs.length = Try.prog.cellsOf t ∧ ∀ (i : Nat) f, fs[i]? = some f → ∃ d, AR (D := D) Try.prog H f.type ((cs.drop f.offset).take (Try.prog.cellsOf f.type)) d := by
  cases h with
  | int ht hw => rw [hu] at ht; cases ht
  | bool ht => rw [hu] at ht; cases ht
  | string ht _ => rw [hu] at ht; cases ht
  | sliceNil ht => rw [hu] at ht; cases ht
  | slice ht _ _ _ _ _ _ => rw [hu] at ht; cases ht
  | struct ht hc hl hx =>
    rw [hu] at ht; cases ht
    refine ⟨hc, fun i f hf => ?_⟩
    have hlt := (Array.getElem?_eq_some_iff.1 hf).1
    exact ⟨_, hx i f _ hf (List.getElem?_eq_getElem (by omega))⟩

theorem mapM_all {α β : Type} {g : α → Option β} : ∀ (xs : List α), (∀ x ∈ xs, (g x).isSome = true) → ∃ ys, xs.mapM g = some ys
  | [], _ => ⟨[], rfl⟩
  | x :: xs, h => by
    obtain ⟨y, hy⟩ := Option.isSome_iff_exists.1 (h x (by simp))
    obtain ⟨ys, hys⟩ := mapM_all xs fun z hz => h z (by simp [hz])
    exact ⟨y :: ys, by rw [List.mapM_cons, hy, hys]; rfl⟩

theorem ints_of_AR {t e : TypeId} {k : IntKind} (hu : Try.prog.underlying t = some (.slice e)) (he : Try.prog.underlying e = some (.int k)) (hc : Try.prog.cellsOf e = 1) {cs : List Value} {d : DataW D} (h : AR Try.prog H t cs d) :
    ∃ v l, cs = [v] ∧ rdInts H k v = some l ∧ small v = true ∧ ∀ n ∈ l, (Lit.int k n).wf = true := by
  obtain ⟨v, xs, rfl, hr, hs, hx⟩ := AR_slice hu h
  rw [hc] at hr
  obtain ⟨l, hl⟩ : ∃ l : List Int, xs = l.map (fun n => [.int k n]) ∧ ∀ n ∈ l, (Lit.int k n).wf = true := by
    clear hr
    induction xs with
    | nil => exact ⟨[], rfl, fun n h => by simp at h⟩
    | cons x xs ih =>
      obtain ⟨l, hl, hw⟩ := ih fun i y hy => hx (i + 1) y (by simpa using hy)
      obtain ⟨d, hd⟩ := hx 0 x rfl
      obtain ⟨n, rfl, hn⟩ := AR_int he hd
      refine ⟨n :: l, by simp [hl], fun m hm => ?_⟩
      rcases List.mem_cons.1 hm with rfl | hm
      · exact hn
      · exact hw m hm
  obtain ⟨rfl, hw⟩ := hl
  exact ⟨v, l, rfl, rdInts_of hr, hs, hw⟩

/-- What a function that comes in reads as. -/
theorem fun_of_AR {cs : List Value} {d : DataW D} (h : AR Try.prog H 24 cs d) : ∃ f, rdFun H (.agg cs.toArray) = some f := by
  obtain ⟨hc, hx⟩ := AR_struct Try.underlying24 h
  rw [cells24] at hc
  match cs, hc with
  | [a, b], _ =>
    obtain ⟨d0, h0⟩ := hx 0 _ rfl
    obtain ⟨d1, h1⟩ := hx 1 _ rfl
    simp [cells3, cells22] at h0 h1
    obtain ⟨p, hp, _⟩ := AR_int Try.underlying3 h0
    obtain ⟨s, xs, hs, hr, hsm, he⟩ := AR_slice Try.underlying22 h1
    simp at hp hs
    subst hp; subst hs
    rw [cells40] at hr
    have hall : ∀ x ∈ xs, (rdNode H x).isSome = true := by
      intro x hx
      obtain ⟨i, hi, rfl⟩ := List.mem_iff_getElem.1 hx
      obtain ⟨d, hd⟩ := he i _ (List.getElem?_eq_getElem hi)
      obtain ⟨hc2, hf⟩ := AR_struct Try.underlying40 hd
      rw [cells40] at hc2
      generalize xs[i] = x at *
      match x, hc2 with
      | [a, b, c], _ =>
        obtain ⟨d0, g0⟩ := hf 0 _ rfl
        obtain ⟨d1, g1⟩ := hf 1 _ rfl
        obtain ⟨d2, g2⟩ := hf 2 _ rfl
        simp [cells37, cells2, cells38] at g0 g1 g2
        obtain ⟨m0, e0, _⟩ := AR_int Try.underlying37 g0
        obtain ⟨m1, e1, _⟩ := AR_int Try.underlying2 g1
        obtain ⟨v, l, e2, hl, hsm2, _⟩ := ints_of_AR Try.underlying38 Try.underlying3 cells3 g2
        simp at e0 e1 e2
        subst e0; subst e1; subst e2
        simp [rdNode, smallN, hl]
    obtain ⟨ns, hns⟩ := mapM_all xs hall
    exact ⟨⟨p, ns⟩, by simp [rdFun, smallN, hr, hns]⟩
end
end Go.Proofs.Ytpopkajkekceiaa

namespace Go.Proofs.Ytpopkajkekceiaa
open Go Go.Abs
set_option maxRecDepth 100000
set_option linter.unusedSimpArgs false
set_option linter.unusedVariables false

/-- At most 300 nodes, each with at most 40 beneath it. -/
def fewF : Nat → List NodeD → Bool
  | _, [] => true
  | 0, _ => true
  | m + 1, x :: r => if 40 < x.l.length then false else fewF m r
def fewL (f : FunD) : Bool := fewF 301 f.nodes && decide (f.nodes.length ≤ 300)

theorem few_step {call : CallF} {lf : Nat} {env : Env} {H : Heap} {b0 i : Nat} {p s l : Value} {xs : List (List Value)} {op n : Int} {ys : List Int} (h1 : env.val 1 = .pointer (some ⟨b0, 0, none⟩)) (h3 : env.val 3 = .int .i64 i) (h0 : H.get b0 = some (.cells true 2 [p, s])) (hs : rdS H 3 s = some xs)
    (hi : i ≤ 300) (hx : xs[i]? = some [.int .i64 op, .int .i64 n, l]) (hl : rdInts H .i64 l = some ys) :
    (40 < ys.length → ∃ env', evCode Try.prog call lf 27 none (cAt Try.f9 [1, 0, 1, 0, 0]) env [] H = some (.ret, env', [], H) ∧ env'.val 2 = .bool false) ∧
    (¬ 40 < ys.length → ∃ env', evCode Try.prog call lf 27 none (cAt Try.f9 [1, 0, 1, 0, 0]) env [] H = some (.normal, env', [], H) ∧ env'.val 1 = env.val 1 ∧ env'.val 3 = .int .i64 ((i + 1 : Nat) : Int)) := by
  have hlt := (List.getElem?_eq_some_iff.1 hx).1
  have hb := len_of (H' := H) (P := Try.prog) (t := 22) hs Try.underlying22
  have hb2 := len_of (H' := H) (P := Try.prog) (t := 38) (rdInts_rd hl) Try.underlying38
  simp only [List.length_map] at hb2
  have ld1 : loadA Try.prog 22 H b0 1 = some s := by simp [loadA, h0]
  have ix := rdS_index hs Try.underlying22 info40 (by simp) (n := (i : Int)) (by omega) (by omega)
  simp only [Int.toNat_natCast] at ix
  have lo := rdS_load hs hx (k := 2) (u := l) rfl info38 Try.underlying38 (t := 38) rfl
  have c1 : (i : Int) < (xs.length : Int) := by omega
  have c2 : (i : Int) ≤ 300 := by omega
  have w1 : IntKind.i64.wrap ((i : Int) + 1) = (i : Int) + 1 := wrapI (by omega) (by omega)
  generalize hr : evCode Try.prog call lf 27 none (cAt Try.f9 [1, 0, 1, 0, 0]) env [] H = out
  by_cases h40 : 40 < ys.length
  · have c3 : (40 : Int) < (ys.length : Int) := by omega
    simp [Try.f9, h1, h3, ld1, hb, hb2, ix, lo, c1, c2, c3] at hr
    subst hr
    exact ⟨fun _ => ⟨_, rfl, by simp⟩, fun h => absurd h40 h⟩
  · have c3 : ¬ (40 : Int) < (ys.length : Int) := by omega
    simp [Try.f9, h1, h3, ld1, hb, hb2, ix, lo, c1, c2, c3, w1] at hr
    subst hr
    exact ⟨fun h => absurd h h40, fun _ => ⟨_, rfl, by simp [h1, h3]⟩⟩

theorem few_exit {call : CallF} {lf : Nat} {env : Env} {H : Heap} {b0 i : Nat} {p s : Value} {xs : List (List Value)} (h1 : env.val 1 = .pointer (some ⟨b0, 0, none⟩)) (h3 : env.val 3 = .int .i64 i) (h0 : H.get b0 = some (.cells true 2 [p, s])) (hs : rdS H 3 s = some xs)
    (hi : xs.length ≤ i ∨ 300 < i) :
    ∃ env', evCode Try.prog call lf 27 none (cAt Try.f9 [1, 0, 1, 0, 0]) env [] H = some (.exit 0, env', [], H) ∧ env'.val 1 = env.val 1 := by
  have hb := len_of (H' := H) (P := Try.prog) (t := 22) hs Try.underlying22
  have ld1 : loadA Try.prog 22 H b0 1 = some s := by simp [loadA, h0]
  generalize hr : evCode Try.prog call lf 27 none (cAt Try.f9 [1, 0, 1, 0, 0]) env [] H = out
  by_cases hc : xs.length ≤ i
  · have c1 : ¬ (i : Int) < (xs.length : Int) := by omega
    simp [Try.f9, h1, h3, ld1, hb, c1] at hr
    subst hr
    exact ⟨_, rfl, by simp⟩
  · have c1 : (i : Int) < (xs.length : Int) := by omega
    have c2 : ¬ (i : Int) ≤ 300 := by omega
    simp [Try.f9, h1, h3, ld1, hb, c1, c2] at hr
    subst hr
    exact ⟨_, rfl, by simp⟩

theorem few_loop {call : CallF} {lf : Nat} {H : Heap} {b0 : Nat} {p s : Value} {xs : List (List Value)} (h0 : H.get b0 = some (.cells true 2 [p, s])) (hs : rdS H 3 s = some xs) : ∀ (rest : List NodeD) (i m : Nat) (env : Env), rest.length < m →
    xs.length = i + rest.length → (∀ (j : Nat) x, rest[j]? = some x → ∃ s', xs[i + j]? = some [.int .i64 x.op, .int .i64 x.n, s'] ∧ rdInts H .i64 s' = some x.l) → i ≤ 301 →
    env.val 1 = .pointer (some ⟨b0, 0, none⟩) → env.val 3 = .int .i64 i →
    (fewF (301 - i) rest = true → ∃ env', evLoop Try.prog call lf 27 none (cAt Try.f9 [1, 0, 1, 0, 0]) m env [] H = some (.exit 0, env', [], H) ∧ env'.val 1 = .pointer (some ⟨b0, 0, none⟩)) ∧
    (fewF (301 - i) rest = false → ∃ env', evLoop Try.prog call lf 27 none (cAt Try.f9 [1, 0, 1, 0, 0]) m env [] H = some (.ret, env', [], H) ∧ env'.val 2 = .bool false)
  | rest, i, 0, env, hm, _, _, _, _, _ => by omega
  | [], i, m + 1, env, hm, hl, _, hi, h1, h3 => by
    obtain ⟨env', he, hv⟩ := few_exit (call := call) (lf := lf) h1 h3 h0 hs (.inl (by simp at hl; omega))
    simp only [evLoop_succ, he]
    have : fewF (301 - i) [] = true := by cases 301 - i <;> rfl
    rw [this]
    exact ⟨fun _ => ⟨_, rfl, hv.trans h1⟩, fun h => by cases h⟩
  | x :: rest, i, m + 1, env, hm, hl, hx, hi, h1, h3 => by
    by_cases hi2 : i = 301
    · obtain ⟨env', he, hv⟩ := few_exit (call := call) (lf := lf) h1 h3 h0 hs (.inr (by omega))
      simp only [evLoop_succ, he]
      have : fewF (301 - i) (x :: rest) = true := by subst hi2; rfl
      rw [this]
      exact ⟨fun _ => ⟨_, rfl, hv.trans h1⟩, fun h => by cases h⟩
    · obtain ⟨s', hxs, hls⟩ := hx 0 x rfl
      obtain ⟨g1, g2⟩ := few_step (call := call) (lf := lf) h1 h3 h0 hs (by omega) hxs hls
      have hf : fewF (301 - i) (x :: rest) = if 40 < x.l.length then false else fewF (301 - (i + 1)) rest := by
        rw [show 301 - i = (301 - (i + 1)) + 1 by omega]; rfl
      rw [hf]
      by_cases h40 : 40 < x.l.length
      · obtain ⟨env', he, hv⟩ := g1 h40
        simp only [evLoop_succ, he, if_pos h40]
        exact ⟨(fun h => by cases h), fun _ => ⟨_, rfl, hv⟩⟩
      · obtain ⟨env', he, hv1, hv3⟩ := g2 h40
        simp only [evLoop_succ, he, if_neg h40]
        exact few_loop h0 hs rest (i + 1) m env' (by simp at hm; omega) (by simp at hl; omega) (fun j y hy => by
          obtain ⟨s', a, b⟩ := hx (j + 1) y (by simpa using hy)
          exact ⟨s', by rw [← a]; congr 1; omega, b⟩) (by omega) (hv1.trans h1) hv3

/-- few. -/
noncomputable def fewC : Contract Try.prog := Contract.plain 9
  (fun args H => match args with
    | [v] => (rdFun H v).map fun f => .ret (.bool (fewL f))
    | _ => none) (by
    intro args H res hw hr
    split at hr
    · rename_i v
      obtain ⟨f, hf, rfl⟩ := Option.map_eq_some_iff.1 hr
      obtain ⟨s, xs, rfl, hsm, hs, hlen, hx⟩ := rdFun_inv hf
      obtain ⟨_, hone, _, _⟩ := rdS_one hs
      have hx1 := Ext.push hw (.cells true 2 [.int .i64 f.params, s])
      have h0 := get_push_self H (.cells true 2 [.int .i64 f.params, s])
      have hs' := rdS_ext hx1 hs
      have hb := len_of (H' := H.push (.cells true 2 [.int .i64 f.params, s])) (P := Try.prog) (t := 22) hs' Try.underlying22
      have ld1 : loadA Try.prog 22 (H.push (.cells true 2 [.int .i64 f.params, s])) H.next 1 = some s := by simp [loadA, h0]
      refine ⟨rfl, fun _ _ => none, H.push (.cells true 2 [.int .i64 f.params, s]), noCall_ok, f.nodes.length + 1, ?_, hx1⟩
      generalize hr : evFn Try.prog (fun _ _ => none) (f.nodes.length + 1) 9 [.agg #[.int .i64 f.params, s]] H = out
      simp [Try.f9, hone] at hr
      generalize hL : evLoop _ _ _ _ _ _ _ _ _ _ = L at hr
      obtain ⟨g1, g2⟩ := few_loop (call := fun _ _ => none) (lf := f.nodes.length + 1) h0 hs' f.nodes 0 (f.nodes.length + 1) ((((Tr.nil.set 0 (.agg #[.int .i64 f.params, s])).set 1 (.pointer (some ⟨H.next, 0, none⟩))).set 2 (.bool false)).set 3 (.int .i64 0)) (Nat.lt_succ_self _) (by omega) (fun j y hy => by
        obtain ⟨s', a, _, b⟩ := hx j y hy
        exact ⟨s', by rw [← a]; congr 1; omega, rdInts_ext hx1 b⟩) (by omega) (by simp) (by simp)
      unfold fewL
      cases hfw : fewF 301 f.nodes with
      | true =>
        obtain ⟨env', he, hv⟩ := g1 hfw
        have e := hL.symm.trans he
        subst e
        have hd : ((xs.length : Int) ≤ 300) = (f.nodes.length ≤ 300) := by rw [hlen]; apply propext; omega
        simpa [hv, ld1, hb, hd] using hr.symm
      | false =>
        obtain ⟨env', he, hv⟩ := g2 hfw
        have e := hL.symm.trans he
        subst e
        simpa [hv] using hr.symm
    · cases hr)
theorem few_hit {cs : List (Contract Try.prog)} {H : Heap} {v : Value} {f : FunD} (h : rdFun H v = some f) : callOf (fewC :: cs) (.fn 9 [v]) H = some (.ret (.bool (fewL f)), H) :=
  callOf_hit rfl (by simp [fewC, Contract.plain, h])
end Go.Proofs.Ytpopkajkekceiaa

namespace Go.Proofs.Ytpopkajkekceiaa
open Go Go.Abs
set_option maxRecDepth 100000
set_option linter.unusedSimpArgs false
set_option linter.unusedVariables false

theorem beqD (a b : Int) : (a == b) = decide (a = b) := by by_cases h : a = b <;> simp [h]
theorem beqF {a b : Int} (h : a ≠ b) : (a == b) = false := by simpa using h
def namesL (op : Int) : Bool := decide (op = 13 ∨ op = 14 ∨ (21 ≤ op ∧ op ≤ 23))
noncomputable def namesC : Contract Try.prog := Contract.plain 43
  (fun args _ => match args with
    | [.int .i64 op] => some (.ret (.bool (namesL op)))
    | _ => none) (by
    intro args H res hw hr
    split at hr
    · rename_i op
      cases hr
      refine ⟨rfl, _, H, noCall_ok, 0, ?_, Ext.refl H⟩
      by_cases h1 : op = 13
      · subst h1; simp [undef, Try.f43, namesL]
      · by_cases h2 : op = 14
        · subst h2; simp [undef, Try.f43, namesL]
        · by_cases h3 : 21 ≤ op
          · by_cases h4 : op ≤ 23 <;> simp [undef, Try.f43, namesL, h1, h2, h3, h4]
          · simp [undef, Try.f43, namesL, h1, h2, h3]
    · cases hr)

def numberL (op n vars : Int) : Bool :=
  if namesL op = true then decide (0 ≤ n ∧ n ≤ 63) else if op = 3 then decide (0 ≤ n ∧ n < vars) else decide (op = 1 ∨ n = 0)
noncomputable def numberC : Contract Try.prog := Contract.plain 51
  (fun args _ => match args with
    | [.int .i64 op, .int .i64 n, .int .i64 vars] => some (.ret (.bool (numberL op n vars)))
    | _ => none) (by
    intro args H res hw hr
    split at hr
    · rename_i op n vars
      cases hr
      refine ⟨rfl, callOf [namesC], H, callOf_ok _, 0, ?_, Ext.refl H⟩
      have hc : ∀ H, callOf [namesC] (.fn 43 [.int .i64 op]) H = some (.ret (.bool (namesL op)), H) := fun H => callOf_hit rfl rfl
      cases hn : namesL op with
      | true =>
        by_cases h1 : 0 ≤ n
        · by_cases h2 : n ≤ 63 <;> simp [Try.f51, callA, hc, hn, numberL, h1, h2]
        · simp [Try.f51, callA, hc, hn, numberL, h1]
      | false =>
        by_cases h3 : op = 3
        · subst h3
          by_cases h1 : 0 ≤ n
          · by_cases h2 : n < vars <;> simp [Try.f51, callA, hc, hn, numberL, h1, h2]
          · simp [Try.f51, callA, hc, hn, numberL, h1]
        · by_cases h1 : op = 1
          · subst h1
            simp [Try.f51, callA, hc, hn, numberL]
          · by_cases h2 : n = 0 <;> simp [Try.f51, callA, hc, hn, numberL, h1, h2, h3, beqF h1, beqF h3]
    · cases hr)

def beneathL (op n : Int) : Bool :=
  if op = 1 ∨ op = 2 ∨ op = 3 ∨ op = 15 ∨ op = 19 then decide (n = 0)
  else if op = 4 ∨ op = 6 ∨ op = 7 ∨ op = 8 ∨ op = 9 ∨ op = 10 ∨ op = 16 then decide (n = 2)
  else if op = 5 then decide (n = 3)
  else if op = 11 ∨ op = 12 ∨ op = 17 ∨ op = 18 ∨ op = 24 then decide (n = 1)
  else if op = 13 ∨ op = 14 ∨ op = 22 ∨ op = 23 then decide (n ≤ 8)
  else if op = 20 then decide (n ≤ 16)
  else if op = 21 then decide (1 ≤ n ∧ n ≤ 9)
  else false

theorem beneath_known {op n : Int} {H : Heap} (h : 0 ≤ op ∧ op ≤ 24) : evFn Try.prog (fun _ _ => none) 0 50 [.int .i64 op, .int .i64 n] H = some (.ret (.bool (beneathL op n)), H) := by
  have : op = 0 ∨ op = 1 ∨ op = 2 ∨ op = 3 ∨ op = 4 ∨ op = 5 ∨ op = 6 ∨ op = 7 ∨ op = 8 ∨ op = 9 ∨ op = 10 ∨ op = 11 ∨ op = 12 ∨ op = 13 ∨ op = 14 ∨ op = 15 ∨ op = 16 ∨ op = 17 ∨ op = 18 ∨ op = 19 ∨ op = 20 ∨ op = 21 ∨ op = 22 ∨ op = 23 ∨ op = 24 := by omega
  rcases this with rfl | rfl | rfl | rfl | rfl | rfl | rfl | rfl | rfl | rfl | rfl | rfl | rfl | rfl | rfl | rfl | rfl | rfl | rfl | rfl | rfl | rfl | rfl | rfl | rfl
  case inr.inr.inr.inr.inr.inr.inr.inr.inr.inr.inr.inr.inr.inr.inr.inr.inr.inr.inr.inr.inr.inl =>
    by_cases h1 : 1 ≤ n
    · by_cases h2 : n ≤ 9 <;> simp [undef, Try.f50, beneathL, h1, h2]
    · simp [Try.f50, beneathL, h1]
  all_goals simp [Try.f50, beneathL, beqD]

theorem beneath_other {op n : Int} {H : Heap} (h : ¬ (0 ≤ op ∧ op ≤ 24)) : evFn Try.prog (fun _ _ => none) 0 50 [.int .i64 op, .int .i64 n] H = some (.ret (.bool false), H) := by
  have h1 : op ≠ 1 := by omega
  have h2 : op ≠ 2 := by omega
  have h3 : op ≠ 3 := by omega
  have h4 : op ≠ 4 := by omega
  have h5 : op ≠ 5 := by omega
  have h6 : op ≠ 6 := by omega
  have h7 : op ≠ 7 := by omega
  have h8 : op ≠ 8 := by omega
  have h9 : op ≠ 9 := by omega
  have h10 : op ≠ 10 := by omega
  have h11 : op ≠ 11 := by omega
  have h12 : op ≠ 12 := by omega
  have h13 : op ≠ 13 := by omega
  have h14 : op ≠ 14 := by omega
  have h15 : op ≠ 15 := by omega
  have h16 : op ≠ 16 := by omega
  have h17 : op ≠ 17 := by omega
  have h18 : op ≠ 18 := by omega
  have h19 : op ≠ 19 := by omega
  have h20 : op ≠ 20 := by omega
  have h21 : op ≠ 21 := by omega
  have h22 : op ≠ 22 := by omega
  have h23 : op ≠ 23 := by omega
  have h24 : op ≠ 24 := by omega
  simp [Try.f50, beqF h1, beqF h2, beqF h3, beqF h4, beqF h5, beqF h6, beqF h7, beqF h8, beqF h9, beqF h10, beqF h11, beqF h12, beqF h13, beqF h14, beqF h15, beqF h16, beqF h17, beqF h18, beqF h19, beqF h20, beqF h21, beqF h22, beqF h23, beqF h24]
theorem beneathL_other {op n : Int} (h : ¬ (0 ≤ op ∧ op ≤ 24)) : beneathL op n = false := by
  unfold beneathL
  repeat rw [if_neg (by omega)]
noncomputable def beneathC : Contract Try.prog := Contract.plain 50
  (fun args _ => match args with
    | [.int .i64 op, .int .i64 n] => some (.ret (.bool (beneathL op n)))
    | _ => none) (by
    intro args H res hw hr
    split at hr
    · rename_i op n
      cases hr
      refine ⟨rfl, _, H, noCall_ok, 0, ?_, Ext.refl H⟩
      by_cases h : 0 ≤ op ∧ op ≤ 24
      · exact beneath_known h
      · rw [beneathL_other h]; exact beneath_other h
    · cases hr)
end Go.Proofs.Ytpopkajkekceiaa

namespace Go.Proofs.Ytpopkajkekceiaa
open Go Go.Abs
set_option maxRecDepth 100000
set_option linter.unusedSimpArgs false
set_option linter.unusedVariables false

/-! ### The reference's table of places -/
structure Rp where
  above : Int
  vars : Int
def flatR : List Rp → List Value
  | [] => []
  | p :: ps => .int .i64 p.above :: .int .i64 p.vars :: flatR ps
theorem flatR_length : ∀ ps : List Rp, (flatR ps).length = 2 * ps.length
  | [] => rfl
  | p :: ps => by simp only [flatR, List.length_cons, flatR_length ps]; omega
theorem flatR_get : ∀ (ps : List Rp) (i : Nat) (p : Rp), ps[i]? = some p → (flatR ps)[i * 2]? = some (.int .i64 p.above) ∧ (flatR ps)[i * 2 + 1]? = some (.int .i64 p.vars)
  | [], i, p, h => by simp at h
  | q :: ps, 0, p, h => by simp at h; subst h; exact ⟨rfl, rfl⟩
  | q :: ps, i + 1, p, h => by
    simp at h
    have := flatR_get ps i p h
    rw [show (i + 1) * 2 = i * 2 + 2 by omega]
    exact this
theorem flatR_put : ∀ (ps : List Rp) (i : Nat) (p : Rp), i < ps.length → putL (flatR ps) (i * 2) [.int .i64 p.above, .int .i64 p.vars] = flatR (ps.set i p)
  | [], i, p, h => by simp at h
  | q :: ps, 0, p, h => by simp [flatR, putL]
  | q :: ps, i + 1, p, h => by
    simp at h
    have := flatR_put ps i p h
    rw [List.set_cons_succ]
    simp only [flatR]
    rw [← this, show (i + 1) * 2 = i * 2 + 2 by omega]
    simp [putL]
theorem flatR_put1 : ∀ (ps : List Rp) (i : Nat) (p : Rp) (v : Int), ps[i]? = some p → putL (flatR ps) (i * 2 + 1) [.int .i64 v] = flatR (ps.set i { p with vars := v })
  | [], i, p, v, h => by simp at h
  | q :: ps, 0, p, v, h => by simp at h; subst h; simp [flatR, putL]
  | q :: ps, i + 1, p, v, h => by
    simp at h
    have := flatR_put1 ps i p v h
    rw [List.set_cons_succ]
    simp only [flatR]
    rw [← this, show (i + 1) * 2 + 1 = (i * 2 + 1) + 2 by omega]
    simp [putL]
theorem flatR_made (m : Nat) : madeL [.int .i64 0, .int .i64 0] (m * 2) = flatR (List.replicate m ⟨0, 0⟩) := by
  apply List.ext_getElem?
  intro j
  have hlen : (flatR (List.replicate m ⟨0, 0⟩)).length = 2 * m := by rw [flatR_length]; simp
  by_cases hj : j < m * 2
  · have hd : j / 2 < m := by omega
    obtain ⟨h0, h1⟩ := flatR_get (List.replicate m ⟨0, 0⟩) (j / 2) ⟨0, 0⟩ (by simp [hd])
    have hm : (madeL [.int .i64 0, .int .i64 0] (m * 2))[j]? = some ([Value.int .i64 0, .int .i64 0].getD (j % 2) undef) := by
      simp [madeL, hj]
    rw [hm]
    have : j % 2 = 0 ∨ j % 2 = 1 := by omega
    rcases this with e | e
    · rw [e, show j = j / 2 * 2 by omega, h0]; rfl
    · rw [e, show j = j / 2 * 2 + 1 by omega, h1]; rfl
  · rw [List.getElem?_eq_none (by simp [madeL]; omega), List.getElem?_eq_none (by omega)]
theorem makeR {H : Heap} {m : Nat} (hm : m ≤ 200) : makeSliceA Try.prog 61 (m : Int) (m : Int) H = some (.slice (some ⟨H.next, 0, none⟩) m m, H.push (.cells true 2 (flatR (List.replicate m ⟨0, 0⟩)))) := by
  have he : elemA Try.prog 61 = some (69, Try.t69) := by rfl
  have hz : zeroA Try.prog 69 = some (.agg #[.int .i64 0, .int .i64 0], 2) := by rfl
  have hsz : Try.t69.size = 2 := by rfl
  have hby : Try.t69.bytes ≤ 65536 := by decide
  simp only [makeSliceA, he, hz]
  rw [if_pos ⟨by omega, Int.le_refl _, by omega, hby, by decide, by rfl⟩]
  simp [hsz, flatR_made]
theorem built69 {k k' : IntKind} {a b : Int} : Try.prog.built 69 [(0, .int k a), (1, .int k' b)] = some #[.int k a, .int k' b] := by kernel_rfl
theorem info69' : Try.prog.info? 69 = some Try.t69 := by kernel_rfl
theorem size69' : Try.t69.size = 2 := by kernel_rfl
theorem storeR {H : Heap} {b i : Nat} {ps : List Rp} {v w : Int} (h : H.get b = some (.cells true 2 (flatR ps))) (hi : i < ps.length) :
    storeA Try.prog 69 H b (i * 2) (.agg #[.int .i64 v, .int .i64 w]) = some (H.set b (.cells true 2 (flatR (ps.set i ⟨v, w⟩)))) := by
  have := flatR_put ps i ⟨v, w⟩ hi
  simp only [storeA, h, info69', size69', cells_agg]
  rw [if_pos ⟨rfl, by rw [flatR_length]; omega, rfl⟩]
  simp only [this]
theorem storeR1 {H : Heap} {b i : Nat} {ps : List Rp} {p : Rp} {w : Int} (h : H.get b = some (.cells true 2 (flatR ps))) (hi : ps[i]? = some p) :
    storeA Try.prog 3 H b (i * 2 + 1) (.int .i64 w) = some (H.set b (.cells true 2 (flatR (ps.set i { p with vars := w })))) := by
  have := flatR_put1 ps i p w hi
  have hl := (List.getElem?_eq_some_iff.1 hi).1
  simp only [storeA, h, info3, size3, cells_int]
  rw [if_pos ⟨rfl, by rw [flatR_length]; omega, rfl⟩]
  simp only [this]
theorem indexR {b m c : Nat} {i : Int} (h0 : 0 ≤ i) (hi : i < m) : indexAddrA Try.prog 61 (.slice (some ⟨b, 0, none⟩) m c) i = some (.pointer (some ⟨b, i.toNat * 2, none⟩)) := by
  simp only [indexAddrA, Try.underlying61, info69', size69']
  rw [if_pos ⟨h0, hi⟩]
  simp
theorem loadR {H : Heap} {b i : Nat} {ps : List Rp} {p : Rp} (h : H.get b = some (.cells true 2 (flatR ps))) (hi : ps[i]? = some p) :
    loadA Try.prog 3 H b (i * 2) = some (.int .i64 p.above) ∧ loadA Try.prog 3 H b (i * 2 + 1) = some (.int .i64 p.vars) := by
  obtain ⟨h0, h1⟩ := flatR_get ps i p hi
  simp [loadA, h, h0, h1]

/-! ### Places, plainly -/
def pKids (n i : Nat) (op vars : Int) : Nat → List Int → List Rp → Option (List Rp)
  | _, [], ps => some ps
  | k, c :: cs, ps => if c ≤ i ∨ (n : Int) ≤ c then none else
      match ps[c.toNat]? with
      | some p => if 0 ≤ p.above then none else pKids n i op vars (k + 1) cs (ps.set c.toNat ⟨i, if op = 4 ∧ k = 1 then vars + 1 else vars⟩)
      | none => none
def pStep (n i : Nat) (x : NodeD) (ps : List Rp) : Option (List Rp) := match ps[i]? with
  | some p => if (0 < i ∧ p.above < 0) ∨ 64 < p.vars then none else
      if beneathL x.op x.l.length = true ∧ numberL x.op x.n p.vars = true then pKids n i x.op p.vars 0 x.l ps else none
  | none => none
def pFrom (n : Nat) : Nat → List NodeD → List Rp → Except Nat (List Rp)
  | _, [], ps => .ok ps
  | i, x :: xs, ps => match pStep n i x ps with
    | some ps' => pFrom n (i + 1) xs ps'
    | none => .error i
def placesL (f : FunD) : Except Nat (List Rp) :=
  if f.params < 0 ∨ 9 < f.params ∨ f.nodes.length < 1 ∨ 200 < f.nodes.length then .error 0
  else pFrom f.nodes.length 0 f.nodes ((List.replicate f.nodes.length ⟨-1, 0⟩).set 0 ⟨-1, f.params⟩)

/-! ### The walk -/
structure QHeap (H0 H : Heap) (b0 b1 n : Nat) (p s : Value) (ps : List Rp) : Prop where
  wf : H.Wf
  ext : Ext H0 H
  hn : H0.get b1 = none
  h0 : H.get b0 = some (.cells true 2 [p, s])
  h1 : H.get b1 = some (.cells true 2 (flatR ps))
  hm : ps.length = n
  ne : b0 ≠ b1
theorem QHeap.push {H0 H : Heap} {b0 b1 n : Nat} {p s : Value} {ps : List Rp} (h : QHeap H0 H b0 b1 n p s ps) (o : AObj) : QHeap H0 (H.push o) b0 b1 n p s ps :=
  ⟨h.wf.push o, h.ext.to_push h.wf o, h.hn, (get_push_ne (Nat.ne_of_lt (h.wf.lt h.h0))).trans h.h0, (get_push_ne (Nat.ne_of_lt (h.wf.lt h.h1))).trans h.h1, h.hm, h.ne⟩
theorem QHeap.put {H0 H : Heap} {b0 b1 n : Nat} {p s : Value} {ps ps' : List Rp} (h : QHeap H0 H b0 b1 n p s ps) (hl : ps'.length = ps.length) : QHeap H0 (H.set b1 (.cells true 2 (flatR ps'))) b0 b1 n p s ps' :=
  ⟨h.wf.set (h.wf.lt h.h1) _, h.ext.to_set h.hn _, h.hn, (get_set_ne h.ne).trans h.h0, get_set_self _ _ _, hl.trans h.hm, h.ne⟩
theorem QHeap.setNew {H0 H : Heap} {b0 b1 n : Nat} {p s : Value} {ps : List Rp} (h : QHeap H0 H b0 b1 n p s ps) (z o : AObj) : QHeap H0 ((H.push z).set H.next o) b0 b1 n p s ps := by
  have k0 := Nat.ne_of_lt (h.wf.lt h.h0)
  have k1 := Nat.ne_of_lt (h.wf.lt h.h1)
  exact ⟨(h.wf.push z).set (by simp) _, (h.ext.to_push h.wf z).to_set (ext_none h.ext h.wf) _, h.hn, by rw [get_set_ne k0, get_push_ne k0]; exact h.h0, by rw [get_set_ne k1, get_push_ne k1]; exact h.h1, h.hm, h.ne⟩

def pM : List Nat := [1, 1, 1, 1, 1, 1, 0, 1, 0, 0]
def pQ : List Nat := [1, 1, 1, 1, 1, 1, 0, 1, 0, 0, 1, 0, 0, 1, 1, 1, 1, 0, 0]

theorem q_bad {call : CallF} {lf : Nat} {env : Env} {H0 H : Heap} {b0 b1 b9 i n k : Nat} {op c : Int} {p s l : Value} {ov nv : Value} {ps : List Rp} {q : Rp} {ll : List Int}
    (hH : QHeap H0 H b0 b1 n p s ps) (h9 : H.get b9 = some (.cells true 3 [ov, nv, l])) (hl : rdInts H .i64 l = some ll) (hk : ll[k]? = some c)
    (e5 : env.val 5 = .int .i64 n) (e6 : env.val 6 = .slice (some ⟨b1, 0, none⟩) n n) (e8 : env.val 8 = .int .i64 i) (e9 : env.val 9 = .pointer (some ⟨b9, 0, none⟩)) (e10 : env.val 10 = .int .i64 op) (e11 : env.val 11 = .int .i64 k)
    (hbad : c ≤ i ∨ (n : Int) ≤ c ∨ ∃ q, ps[c.toNat]? = some q ∧ 0 ≤ q.above) :
    ∃ env', evCode Try.prog call lf 153 none (cAt Try.f31 pQ) env [] H = some (.ret, env', [], H) ∧ env'.val 2 = .slice none 0 0 ∧ env'.val 3 = .int .i64 i ∧ env'.val 4 = .bool true := by
  have hlt := (List.getElem?_eq_some_iff.1 hk).1
  have hb := len_of (H' := H) (P := Try.prog) (t := 38) (rdInts_rd hl) Try.underlying38
  simp only [List.length_map] at hb
  have ld2 : loadA Try.prog 38 H b9 2 = some l := by simp [loadA, h9]
  obtain ⟨ix, lo⟩ := rdInts_at (n := k) (x := c) (P := Try.prog) (t := 38) (e := 3) hl hk Try.underlying38 info3 rfl Try.underlying3 rfl
  have c1 : (k : Int) < (ll.length : Int) := by omega
  generalize hr : evCode Try.prog call lf 153 none (cAt Try.f31 pQ) env [] H = out
  by_cases g1 : c ≤ i
  · simp [pQ, Try.f31, e5, e6, e8, e9, e10, e11, ld2, hb, c1, ix, lo, g1] at hr
    subst hr
    exact ⟨_, rfl, by simp [e8]⟩
  · by_cases g2 : (n : Int) ≤ c
    · simp [pQ, Try.f31, e5, e6, e8, e9, e10, e11, ld2, hb, c1, ix, lo, g1, g2] at hr
      subst hr
      exact ⟨_, rfl, by simp [e8]⟩
    · obtain ⟨q, hq, hq2⟩ := (hbad.resolve_left g1).resolve_left g2
      have i2 := indexR (b := b1) (c := n) (m := n) (i := c) (by omega) (by omega)
      obtain ⟨l0, l1⟩ := loadR hH.h1 hq
      simp [pQ, Try.f31, e5, e6, e8, e9, e10, e11, ld2, hb, c1, ix, lo, g1, g2, i2, l0, hq2] at hr
      subst hr
      exact ⟨_, rfl, by simp [e8]⟩
end Go.Proofs.Ytpopkajkekceiaa

namespace Go.Proofs.Ytpopkajkekceiaa
open Go Go.Abs
set_option maxRecDepth 100000
set_option linter.unusedSimpArgs false
set_option linter.unusedVariables false

def keepQ (e e' : Env) : Prop := e'.val 1 = e.val 1 ∧ e'.val 5 = e.val 5 ∧ e'.val 6 = e.val 6 ∧ e'.val 8 = e.val 8 ∧ e'.val 9 = e.val 9 ∧ e'.val 10 = e.val 10

theorem q_exit {call : CallF} {lf : Nat} {env : Env} {H : Heap} {b9 k : Nat} {l : Value} {ov nv : Value} {ll : List Int}
    (h9 : H.get b9 = some (.cells true 3 [ov, nv, l])) (hl : rdInts H .i64 l = some ll) (e9 : env.val 9 = .pointer (some ⟨b9, 0, none⟩)) (e11 : env.val 11 = .int .i64 k) (hk : ll.length ≤ k) :
    ∃ env', evCode Try.prog call lf 153 none (cAt Try.f31 pQ) env [] H = some (.exit 4, env', [], H) ∧ keepQ env env' := by
  have hb := len_of (H' := H) (P := Try.prog) (t := 38) (rdInts_rd hl) Try.underlying38
  simp only [List.length_map] at hb
  have ld2 : loadA Try.prog 38 H b9 2 = some l := by simp [loadA, h9]
  have c1 : ¬ (k : Int) < (ll.length : Int) := by omega
  generalize hr : evCode Try.prog call lf 153 none (cAt Try.f31 pQ) env [] H = out
  simp [pQ, Try.f31, e9, e11, ld2, hb, c1] at hr
  subst hr
  exact ⟨_, rfl, by simp [keepQ, e9]⟩

theorem q_good {call : CallF} {lf : Nat} {env : Env} {H0 H : Heap} {b0 b1 b9 i n k : Nat} {op c : Int} {p s l : Value} {ov nv : Value} {ps : List Rp} {q qi : Rp} {ll : List Int}
    (hH : QHeap H0 H b0 b1 n p s ps) (h9 : H.get b9 = some (.cells true 3 [ov, nv, l])) (n9 : b9 ≠ b1) (hl : rdInts H .i64 l = some ll) (hk : ll[k]? = some c) (hkb : k < 1099511627776) (hi : i < n)
    (e1 : env.val 1 = .pointer (some ⟨b0, 0, none⟩)) (e5 : env.val 5 = .int .i64 n) (e6 : env.val 6 = .slice (some ⟨b1, 0, none⟩) n n) (e8 : env.val 8 = .int .i64 i) (e9 : env.val 9 = .pointer (some ⟨b9, 0, none⟩)) (e10 : env.val 10 = .int .i64 op) (e11 : env.val 11 = .int .i64 k)
    (g1 : ¬ c ≤ i) (g2 : ¬ (n : Int) ≤ c) (hq : ps[c.toNat]? = some q) (hq2 : ¬ 0 ≤ q.above) (hqi : ps[i]? = some qi) (hv : 0 ≤ qi.vars ∧ qi.vars ≤ 64) :
    ∃ env' H', evCode Try.prog call lf 153 none (cAt Try.f31 pQ) env [] H = some (.normal, env', [], H') ∧ keepQ env env' ∧ env'.val 11 = .int .i64 ((k + 1 : Nat) : Int) ∧
      QHeap H0 H' b0 b1 n p s (ps.set c.toNat ⟨i, if op = 4 ∧ k = 1 then qi.vars + 1 else qi.vars⟩) ∧ H'.get b9 = some (.cells true 3 [ov, nv, l]) := by
  have hlt := (List.getElem?_eq_some_iff.1 hk).1
  have hcl := (List.getElem?_eq_some_iff.1 hq).1
  have hb := len_of (H' := H) (P := Try.prog) (t := 38) (rdInts_rd hl) Try.underlying38
  simp only [List.length_map] at hb
  have ld2 : loadA Try.prog 38 H b9 2 = some l := by simp [loadA, h9]
  obtain ⟨ix, lo⟩ := rdInts_at (n := k) (x := c) (P := Try.prog) (t := 38) (e := 3) hl hk Try.underlying38 info3 rfl Try.underlying3 rfl
  have c1 : (k : Int) < (ll.length : Int) := by omega
  have i2 := indexR (b := b1) (c := n) (m := n) (i := c) (by omega) (by omega)
  have i3 := indexR (b := b1) (c := n) (m := n) (i := (i : Int)) (by omega) (by omega)
  simp only [Int.toNat_natCast] at i3
  obtain ⟨l0, l1⟩ := loadR hH.h1 hq
  obtain ⟨_, l3⟩ := loadR hH.h1 hqi
  have st := storeR (v := i) (w := qi.vars) hH.h1 hcl
  have w1 : IntKind.i64.wrap ((k : Int) + 1) = (k : Int) + 1 := wrapI (by omega) (by omega)
  have w2 : IntKind.i64.wrap (qi.vars + 1) = qi.vars + 1 := wrapI (by omega) (by omega)
  have hH1 := hH.put (ps' := ps.set c.toNat ⟨i, qi.vars⟩) (by simp)
  have hq1 : (ps.set c.toNat ⟨i, qi.vars⟩)[c.toNat]? = some ⟨i, qi.vars⟩ := by simp [hcl]
  obtain ⟨_, l5⟩ := loadR hH1.h1 hq1
  have st2 := storeR1 (w := qi.vars + 1) hH1.h1 hq1
  generalize hr : evCode Try.prog call lf 153 none (cAt Try.f31 pQ) env [] H = out
  by_cases h4 : op = 4
  · by_cases h5 : k = 1
    · subst h4
      have h5' : ((k : Int) == 1) = true := by simp; omega
      simp [pQ, Try.f31, e5, e6, e8, e9, e10, e11, ld2, hb, c1, ix, lo, g1, g2, i2, i3, l0, l1, l3, l5, hq2, built69, st, w1, w2, st2, -beq_iff_eq, h5'] at hr
      subst hr
      refine ⟨_, _, rfl, by simp [keepQ, e1, e5, e6, e8, e9, e10], by simp, ?_, ?_⟩
      · have := hH1.put (ps' := (ps.set c.toNat ⟨i, qi.vars⟩).set c.toNat ⟨i, qi.vars + 1⟩) (by simp)
        simpa [h5] using this
      · rw [get_set_ne n9, get_set_ne n9]; exact h9
    · have h5' : ¬ ((k : Int) = 1) := by omega
      subst h4
      simp [pQ, Try.f31, e5, e6, e8, e9, e10, e11, ld2, hb, c1, ix, lo, g1, g2, i2, i3, l0, l1, l3, l5, hq2, built69, st, w1, w2, st2, h5, h5', beqF h5'] at hr
      subst hr
      refine ⟨_, _, rfl, by simp [keepQ, e1, e5, e6, e8, e9, e10], by simp, ?_, ?_⟩
      · rw [if_neg (by omega)]; exact hH1
      · rw [get_set_ne n9]; exact h9
  · simp [pQ, Try.f31, e5, e6, e8, e9, e10, e11, ld2, hb, c1, ix, lo, g1, g2, i2, i3, l0, l1, l3, l5, hq2, built69, st, w1, w2, st2, h4, beqF h4] at hr
    subst hr
    refine ⟨_, _, rfl, by simp [keepQ, e1, e5, e6, e8, e9, e10], by simp, ?_, ?_⟩
    · rw [if_neg (by omega)]; exact hH1
    · rw [get_set_ne n9]; exact h9

theorem keepQ.refl (e : Env) : keepQ e e := ⟨rfl, rfl, rfl, rfl, rfl, rfl⟩
theorem keepQ.trans {a b c : Env} (h : keepQ a b) (k : keepQ b c) : keepQ a c := ⟨k.1.trans h.1, k.2.1.trans h.2.1, k.2.2.1.trans h.2.2.1, k.2.2.2.1.trans h.2.2.2.1, k.2.2.2.2.1.trans h.2.2.2.2.1, k.2.2.2.2.2.trans h.2.2.2.2.2⟩

/-- The inner loop. -/
theorem q_loop {call : CallF} {lf : Nat} {H0 : Heap} {b0 b1 b9 i n : Nat} {op : Int} {p s l : Value} {ov nv : Value} {qi : Rp} {ll : List Int}
    (hl : rdInts H0 .i64 l = some ll) (n9 : b9 ≠ b1) (hi : i < n) (hv : 0 ≤ qi.vars ∧ qi.vars ≤ 64) (hll : ll.length < 1099511627776) : ∀ (rest : List Int) (k m : Nat) (env : Env) (H : Heap) (ps : List Rp), rest.length < m → ll.drop k = rest → k ≤ ll.length →
    QHeap H0 H b0 b1 n p s ps → H.get b9 = some (.cells true 3 [ov, nv, l]) → ps[i]? = some qi →
    env.val 1 = .pointer (some ⟨b0, 0, none⟩) → env.val 5 = .int .i64 n → env.val 6 = .slice (some ⟨b1, 0, none⟩) n n → env.val 8 = .int .i64 i → env.val 9 = .pointer (some ⟨b9, 0, none⟩) → env.val 10 = .int .i64 op → env.val 11 = .int .i64 k →
    (∀ ps', pKids n i op qi.vars k rest ps = some ps' → ∃ env' H', evLoop Try.prog call lf 153 none (cAt Try.f31 pQ) m env [] H = some (.exit 4, env', [], H') ∧ keepQ env env' ∧ QHeap H0 H' b0 b1 n p s ps') ∧
    (pKids n i op qi.vars k rest ps = none → ∃ env' H', evLoop Try.prog call lf 153 none (cAt Try.f31 pQ) m env [] H = some (.ret, env', [], H') ∧ env'.val 2 = .slice none 0 0 ∧ env'.val 3 = .int .i64 i ∧ env'.val 4 = .bool true ∧ Ext H0 H')
  | rest, k, 0, env, H, ps, hm, _, _, _, _, _, _, _, _, _, _, _, _ => by omega
  | [], k, m + 1, env, H, ps, hm, hd, hkl, hH, h9, hqi, e1, e5, e6, e8, e9, e10, e11 => by
    have hk : ll.length ≤ k := by have := congrArg List.length hd; simp at this; omega
    obtain ⟨env', he, kq⟩ := q_exit (call := call) (lf := lf) h9 (rdInts_ext hH.ext hl) e9 e11 hk
    simp only [evLoop_succ, he]
    exact ⟨fun ps' h => by simp only [pKids, Option.some.injEq] at h; subst h; exact ⟨_, _, rfl, kq, hH⟩, fun h => by simp [pKids] at h⟩
  | c :: rest, k, m + 1, env, H, ps, hm, hd, hkl, hH, h9, hqi, e1, e5, e6, e8, e9, e10, e11 => by
    have hk : ll[k]? = some c := by
      have := List.getElem?_drop (xs := ll) (i := k) (j := 0)
      rw [hd] at this
      simpa using this.symm
    have hd' : ll.drop (k + 1) = rest := by rw [← List.drop_drop, hd]; rfl
    have hkl' := (List.getElem?_eq_some_iff.1 hk).1
    have hl' := rdInts_ext hH.ext hl
    by_cases g : c ≤ i ∨ (n : Int) ≤ c
    · obtain ⟨env', he, v2, v3, v4⟩ := q_bad (call := call) (lf := lf) (q := qi) hH h9 hl' hk e5 e6 e8 e9 e10 e11 (by rcases g with g | g; exact .inl g; exact .inr (.inl g))
      simp only [evLoop_succ, he, pKids, if_pos g]
      exact ⟨(fun ps' h => by cases h), fun _ => ⟨_, _, rfl, v2, v3, v4, hH.ext⟩⟩
    · have g1 : ¬ c ≤ i := fun h => g (.inl h)
      have g2 : ¬ (n : Int) ≤ c := fun h => g (.inr h)
      obtain ⟨q, hq⟩ : ∃ q, ps[c.toNat]? = some q := ⟨_, List.getElem?_eq_getElem (by have := hH.hm; omega)⟩
      simp only [pKids, if_neg g, hq]
      by_cases hq2 : 0 ≤ q.above
      · obtain ⟨env', he, v2, v3, v4⟩ := q_bad (call := call) (lf := lf) (q := q) hH h9 hl' hk e5 e6 e8 e9 e10 e11 (.inr (.inr ⟨q, hq, hq2⟩))
        simp only [evLoop_succ, he, if_pos hq2]
        exact ⟨(fun ps' h => by cases h), fun _ => ⟨_, _, rfl, v2, v3, v4, hH.ext⟩⟩
      · obtain ⟨env', H', he, kq, k11, hH', h9'⟩ := q_good (call := call) (lf := lf) hH h9 n9 hl' hk (by omega) hi e1 e5 e6 e8 e9 e10 e11 g1 g2 hq hq2 hqi hv
        simp only [evLoop_succ, he, if_neg hq2]
        obtain ⟨r1, r2⟩ := q_loop hl n9 hi hv hll rest (k + 1) m env' H' _ (by simp at hm; omega) hd' (by omega) hH' h9' (by rw [List.getElem?_set_ne (by omega)]; exact hqi)
          (kq.1.trans e1) (kq.2.1.trans e5) (kq.2.2.1.trans e6) (kq.2.2.2.1.trans e8) (kq.2.2.2.2.1.trans e9) (kq.2.2.2.2.2.trans e10) k11
        refine ⟨fun ps' h => ?_, r2⟩
        obtain ⟨e2, H2, a1, a2, a3⟩ := r1 ps' h
        exact ⟨e2, H2, a1, kq.trans a2, a3⟩
end Go.Proofs.Ytpopkajkekceiaa

namespace Go.Proofs.Ytpopkajkekceiaa
open Go Go.Abs
set_option maxRecDepth 100000
set_option linter.unusedSimpArgs false
set_option linter.unusedVariables false

noncomputable def cR : List (Contract Try.prog) := [beneathC, numberC]
theorem cR_beneath {H : Heap} {op n : Int} : callOf cR (.fn 50 [.int .i64 op, .int .i64 n]) H = some (.ret (.bool (beneathL op n)), H) := callOf_hit rfl rfl
theorem cR_number {H : Heap} {op n v : Int} : callOf cR (.fn 51 [.int .i64 op, .int .i64 n, .int .i64 v]) H = some (.ret (.bool (numberL op n v)), H) := by
  unfold cR
  rw [callOf_miss (by decide)]
  exact callOf_hit rfl rfl

def pN : List Nat := [1, 1, 1, 1, 1, 1, 0, 1, 0, 0, 1, 0, 0]

theorem r_R13 {call : CallF} {lf : Nat} {env : Env} {H : Heap} {b0 i : Nat} {p s l : Value} {op nn : Int} {xs : List (List Value)}
    (h0 : H.get b0 = some (.cells true 2 [p, s])) (hs : rdS H 3 s = some xs) (hx : xs[i]? = some [.int .i64 op, .int .i64 nn, l]) (hl1 : oneC l = true) (hne : b0 ≠ H.next)
    (e1 : env.val 1 = .pointer (some ⟨b0, 0, none⟩)) (e8 : env.val 8 = .int .i64 i) :
    ∃ env' z, evCode Try.prog call lf 153 none (cAt Try.f31 (pN ++ [0])) env [] H = some (.normal, env', [], (H.push z).set H.next (.cells true 3 [.int .i64 op, .int .i64 nn, l])) ∧
      env'.val 1 = env.val 1 ∧ env'.val 5 = env.val 5 ∧ env'.val 6 = env.val 6 ∧ env'.val 8 = env.val 8 ∧ env'.val 9 = .pointer (some ⟨H.next, 0, none⟩) := by
  have hlt := (List.getElem?_eq_some_iff.1 hx).1
  have ld1 : loadA Try.prog 22 H b0 1 = some s := by simp [loadA, h0]
  have ix := rdS_index hs Try.underlying22 info40 (by simp) (n := (i : Int)) (by omega) (by omega)
  simp only [Int.toNat_natCast] at ix
  have lo := rdS_loadA hs hx (t := 40) info40 (by simp) Try.underlying40 rfl
  have st := store3 (H := H) (a := .int .i64 op) (b := .int .i64 nn) (c := l) (x := .int .i64 0) (y := .int .i64 0) (z := .slice none 0 0) rfl rfl hl1 40 _ info40 (by simp)
  generalize hr : evCode Try.prog call lf 153 none (cAt Try.f31 (pN ++ [0])) env [] H = out
  simp [pN, Try.f31, e1, e8, ld1, ix, lo, hl1, st] at hr
  subst hr
  exact ⟨_, _, rfl, by simp [e1, e8]⟩

theorem r_R14 {call : CallF} {lf : Nat} {env : Env} {H : Heap} {b9 : Nat} {op : Int} {nn l : Value} (h9 : H.get b9 = some (.cells true 3 [.int .i64 op, nn, l])) (e9 : env.val 9 = .pointer (some ⟨b9, 0, none⟩)) :
    ∃ env', evCode Try.prog call lf 153 none (cAt Try.f31 (pN ++ [1, 0])) env [] H = some (.normal, env', [], H) ∧
      env'.val 1 = env.val 1 ∧ env'.val 5 = env.val 5 ∧ env'.val 6 = env.val 6 ∧ env'.val 8 = env.val 8 ∧ env'.val 9 = env.val 9 ∧ env'.val 10 = .int .i64 op := by
  have lo : loadA Try.prog 37 H b9 0 = some (.int .i64 op) := by simp [loadA, h9]
  generalize hr : evCode Try.prog call lf 153 none (cAt Try.f31 (pN ++ [1, 0])) env [] H = out
  simp [pN, Try.f31, e9, lo] at hr
  subst hr
  exact ⟨_, rfl, by simp [e9]⟩

def pBad (i : Nat) (op nn : Int) (len : Nat) (p : Rp) : Bool := decide ((0 < i ∧ p.above < 0) ∨ 64 < p.vars) || !(beneathL op len && numberL op nn p.vars)

theorem r_R15 {lf : Nat} {env : Env} {H : Heap} {b1 b9 i n : Nat} {l : Value} {op nn : Int} {ps : List Rp} {q : Rp} {ll : List Int}
    (h1 : H.get b1 = some (.cells true 2 (flatR ps))) (h9 : H.get b9 = some (.cells true 3 [.int .i64 op, .int .i64 nn, l])) (hl : rdInts H .i64 l = some ll) (hq : ps[i]? = some q) (hi : i < n)
    (e6 : env.val 6 = .slice (some ⟨b1, 0, none⟩) n n) (e8 : env.val 8 = .int .i64 i) (e9 : env.val 9 = .pointer (some ⟨b9, 0, none⟩)) (e10 : env.val 10 = .int .i64 op) :
    ∃ env', evCode Try.prog (callOf cR) lf 153 none (cAt Try.f31 (pN ++ [1, 1, 0, 0])) env [] H = some (.normal, env', [], H) ∧ keepQ env env' ∧ env'.val 97 = .bool (pBad i op nn ll.length q) := by
  have hb := len_of (H' := H) (P := Try.prog) (t := 38) (rdInts_rd hl) Try.underlying38
  simp only [List.length_map] at hb
  have ld2 : loadA Try.prog 38 H b9 2 = some l := by simp [loadA, h9]
  have ld1 : loadA Try.prog 2 H b9 1 = some (.int .i64 nn) := by simp [loadA, h9]
  have i3 := indexR (b := b1) (c := n) (m := n) (i := (i : Int)) (by omega) (by omega)
  simp only [Int.toNat_natCast] at i3
  obtain ⟨l0, l1⟩ := loadR h1 hq
  generalize hr : evCode Try.prog (callOf cR) lf 153 none (cAt Try.f31 (pN ++ [1, 1, 0, 0])) env [] H = out
  simp [pN, Try.f31] at hr
  rw [evDraw_tab (tab := [])] at hr
  · by_cases ga : 0 < i
    · by_cases gb : q.above < 0
      · simp [e6, e8, e9, e10, i3, l0, l1, ld1, ld2, hb, callA, cR_beneath, cR_number, ga, gb, undef] at hr
        subst hr
        exact ⟨_, rfl, by simp [keepQ, e6, e8, e9, e10, pBad, ga, gb]⟩
      · by_cases gv : 64 < q.vars
        · simp [e6, e8, e9, e10, i3, l0, l1, ld1, ld2, hb, callA, cR_beneath, cR_number, ga, gb, gv, undef] at hr
          subst hr
          exact ⟨_, rfl, by simp [keepQ, e6, e8, e9, e10, pBad, ga, gb, gv]⟩
        · cases hbn : beneathL op ll.length with
          | false =>
            simp [e6, e8, e9, e10, i3, l0, l1, ld1, ld2, hb, callA, cR_beneath, cR_number, ga, gb, gv, hbn, undef] at hr
            subst hr
            exact ⟨_, rfl, by simp [keepQ, e6, e8, e9, e10, pBad, ga, gb, gv, hbn]⟩
          | true =>
            cases hnm : numberL op nn q.vars with
            | false =>
              simp [e6, e8, e9, e10, i3, l0, l1, ld1, ld2, hb, callA, cR_beneath, cR_number, ga, gb, gv, hbn, hnm, undef] at hr
              subst hr
              exact ⟨_, rfl, by simp [keepQ, e6, e8, e9, e10, pBad, ga, gb, gv, hbn, hnm]⟩
            | true =>
              simp [e6, e8, e9, e10, i3, l0, l1, ld1, ld2, hb, callA, cR_beneath, cR_number, ga, gb, gv, hbn, hnm, undef] at hr
              subst hr
              exact ⟨_, rfl, by simp [keepQ, e6, e8, e9, e10, pBad, ga, gb, gv, hbn, hnm]⟩
    · by_cases gv : 64 < q.vars
      · simp [e6, e8, e9, e10, i3, l0, l1, ld1, ld2, hb, callA, cR_beneath, cR_number, ga, gv, undef] at hr
        subst hr
        exact ⟨_, rfl, by simp [keepQ, e6, e8, e9, e10, pBad, ga, gv]⟩
      · cases hbn : beneathL op ll.length with
        | false =>
          simp [e6, e8, e9, e10, i3, l0, l1, ld1, ld2, hb, callA, cR_beneath, cR_number, ga, gv, hbn, undef] at hr
          subst hr
          exact ⟨_, rfl, by simp [keepQ, e6, e8, e9, e10, pBad, ga, gv, hbn]⟩
        | true =>
          cases hnm : numberL op nn q.vars with
          | false =>
            simp [e6, e8, e9, e10, i3, l0, l1, ld1, ld2, hb, callA, cR_beneath, cR_number, ga, gv, hbn, hnm, undef] at hr
            subst hr
            exact ⟨_, rfl, by simp [keepQ, e6, e8, e9, e10, pBad, ga, gv, hbn, hnm]⟩
          | true =>
            simp [e6, e8, e9, e10, i3, l0, l1, ld1, ld2, hb, callA, cR_beneath, cR_number, ga, gv, hbn, hnm, undef] at hr
            subst hr
            exact ⟨_, rfl, by simp [keepQ, e6, e8, e9, e10, pBad, ga, gv, hbn, hnm]⟩
  · kernel_rfl
  · kernel_rfl
end Go.Proofs.Ytpopkajkekceiaa

namespace Go.Proofs.Ytpopkajkekceiaa
open Go Go.Abs
set_option maxRecDepth 100000
set_option linter.unusedSimpArgs false
set_option linter.unusedVariables false

theorem pKids_good {n i : Nat} {op vars : Int} (hv : 0 ≤ vars) : ∀ (l : List Int) (k : Nat) (ps ps' : List Rp), pKids n i op vars k l ps = some ps' → (∀ q ∈ ps, 0 ≤ q.vars) → ps'.length = ps.length ∧ ∀ q ∈ ps', 0 ≤ q.vars
  | [], k, ps, ps', h, hp => by simp only [pKids, Option.some.injEq] at h; subst h; exact ⟨rfl, hp⟩
  | c :: cs, k, ps, ps', h, hp => by
    simp only [pKids] at h
    split at h
    · cases h
    · split at h
      · split at h
        · cases h
        · have := pKids_good hv cs _ _ _ h (fun q hq => by
            rcases List.mem_or_eq_of_mem_set hq with hq | rfl
            · exact hp q hq
            · simp only; split <;> omega)
          simpa using this
      · cases h
theorem pStep_good {n i : Nat} {x : NodeD} {ps ps' : List Rp} (h : pStep n i x ps = some ps') (hp : ∀ q ∈ ps, 0 ≤ q.vars) : ps'.length = ps.length ∧ ∀ q ∈ ps', 0 ≤ q.vars := by
  unfold pStep at h
  split at h
  · rename_i q hq
    split at h
    · cases h
    · split at h
      · exact pKids_good (hp q (List.mem_of_getElem? hq)) _ _ _ _ h hp
      · cases h
  · cases h

theorem r_cond {call : CallF} {lf : Nat} {env : Env} {H : Heap} {b : Bool} {i : Nat} (h97 : env.val 97 = .bool b) (e8 : env.val 8 = .int .i64 i) :
    (b = true → ∃ env', evCode Try.prog call lf 153 none (cAt Try.f31 (pN ++ [1, 1, 0, 1])) env [] H = some (.ret, env', [], H) ∧ env'.val 2 = .slice none 0 0 ∧ env'.val 3 = .int .i64 i ∧ env'.val 4 = .bool true) ∧
    (b = false → evCode Try.prog call lf 153 none (cAt Try.f31 (pN ++ [1, 1, 0, 1])) env [] H = some (.normal, env, [], H)) := by
  constructor
  · rintro rfl
    generalize hr : evCode Try.prog call lf 153 none (cAt Try.f31 (pN ++ [1, 1, 0, 1])) env [] H = out
    simp [pN, Try.f31, h97, e8] at hr
    subst hr
    exact ⟨_, rfl, by simp [e8]⟩
  · rintro rfl
    simp [pN, Try.f31, h97]
theorem r_R17 {call : CallF} {lf : Nat} {env : Env} {H : Heap} : ∃ env', evCode Try.prog call lf 153 none (cAt Try.f31 (pN ++ [1, 1, 1, 0])) env [] H = some (.normal, env', [], H) ∧ keepQ env env' ∧ env'.val 11 = .int .i64 ((0 : Nat) : Int) := by
  generalize hr : evCode Try.prog call lf 153 none (cAt Try.f31 (pN ++ [1, 1, 1, 0])) env [] H = out
  simp [pN, Try.f31] at hr
  subst hr
  exact ⟨_, rfl, by simp [keepQ]⟩

/-- What a round's block does. -/
theorem r_body {lf : Nat} {env : Env} {H0 H : Heap} {b0 b1 i n : Nat} {p s l : Value} {x : NodeD} {ps : List Rp} {xs : List (List Value)}
    (hH : QHeap H0 H b0 b1 n p s ps) (hs : rdS H0 3 s = some xs) (hx : xs[i]? = some [.int .i64 x.op, .int .i64 x.n, l]) (hl : rdInts H0 .i64 l = some x.l) (hi : i < n) (hll : x.l.length < 1099511627776) (hlf : x.l.length < lf) (hp : ∀ q ∈ ps, 0 ≤ q.vars)
    (e1 : env.val 1 = .pointer (some ⟨b0, 0, none⟩)) (e5 : env.val 5 = .int .i64 n) (e6 : env.val 6 = .slice (some ⟨b1, 0, none⟩) n n) (e8 : env.val 8 = .int .i64 i) :
    (∀ ps', pStep n i x ps = some ps' → ∃ env' H', evCode Try.prog (callOf cR) lf 153 none (cAt Try.f31 pN) env [] H = some (.normal, env', [], H') ∧ env'.val 1 = env.val 1 ∧ env'.val 5 = env.val 5 ∧ env'.val 6 = env.val 6 ∧ env'.val 8 = env.val 8 ∧ QHeap H0 H' b0 b1 n p s ps') ∧
    (pStep n i x ps = none → ∃ env' H', evCode Try.prog (callOf cR) lf 153 none (cAt Try.f31 pN) env [] H = some (.ret, env', [], H') ∧ env'.val 2 = .slice none 0 0 ∧ env'.val 3 = .int .i64 i ∧ env'.val 4 = .bool true ∧ Ext H0 H') := by
  obtain ⟨q, hq⟩ : ∃ q, ps[i]? = some q := ⟨_, List.getElem?_eq_getElem (by have := hH.hm; omega)⟩
  have hqv := hp q (List.mem_of_getElem? hq)
  obtain ⟨_, hl1, _, _⟩ := rdS_one (rdInts_rd hl)
  obtain ⟨a1, z, r1, f1, f5, f6, f8, f9⟩ := r_R13 (call := callOf cR) (lf := lf) hH.h0 (rdS_ext hH.ext hs) hx hl1 (Nat.ne_of_lt (hH.wf.lt hH.h0)) e1 e8
  have hH2 := hH.setNew z (.cells true 3 [.int .i64 x.op, .int .i64 x.n, l])
  have n9 : H.next ≠ b1 := Nat.ne_of_gt (hH.wf.lt hH.h1)
  have h9 : ((H.push z).set H.next (.cells true 3 [.int .i64 x.op, .int .i64 x.n, l])).get H.next = some (.cells true 3 [.int .i64 x.op, .int .i64 x.n, l]) := get_set_self _ _ _
  generalize (H.push z).set H.next (.cells true 3 [.int .i64 x.op, .int .i64 x.n, l]) = H2 at *
  generalize H.next = b9 at *
  obtain ⟨a2, r2, k1, k5, k6, k8, k9, k10⟩ := r_R14 (call := callOf cR) (lf := lf) h9 f9
  have hl2 := rdInts_ext hH2.ext hl
  obtain ⟨a3, r3, k3, k97⟩ := r_R15 (lf := lf) hH2.h1 h9 hl2 hq hi (k6.trans (f6.trans e6)) (k8.trans (f8.trans e8)) (k9.trans f9) k10
  have t1 := k3.1.trans (k1.trans f1)
  have t5 := k3.2.1.trans (k5.trans f5)
  have t6 := k3.2.2.1.trans (k6.trans f6)
  have t8 := k3.2.2.2.1.trans (k8.trans f8)
  have t9 := k3.2.2.2.2.1.trans (k9.trans f9)
  have t10 := k3.2.2.2.2.2.trans k10
  have hstart : evCode Try.prog (callOf cR) lf 153 none (cAt Try.f31 pN) env [] H = evCode Try.prog (callOf cR) lf 153 none (cAt Try.f31 (pN ++ [1, 1])) a2 [] H2 := by
    rw [ev_then (c := cAt Try.f31 pN) (b := cAt Try.f31 (pN ++ [1])) rfl r1, ev_then (c := cAt Try.f31 (pN ++ [1])) (b := cAt Try.f31 (pN ++ [1, 1])) rfl r2]
  obtain ⟨c1, c2⟩ := r_cond (call := callOf cR) (lf := lf) (H := H2) k97 (t8.trans e8)
  have hst : pStep n i x ps = if pBad i x.op x.n x.l.length q = true then none else pKids n i x.op q.vars 0 x.l ps := by
    simp only [pStep, hq, pBad]
    by_cases g1 : (0 < i ∧ q.above < 0) ∨ 64 < q.vars
    · simp [g1]
    · by_cases g2 : beneathL x.op x.l.length = true ∧ numberL x.op x.n q.vars = true
      · simp [g1, g2]
      · rw [if_neg g1, if_neg g2]
        simp only [Bool.not_and, Bool.or_eq_true, decide_eq_true_eq, Bool.not_eq_true']
        rw [if_pos]
        by_cases g3 : beneathL x.op x.l.length = true
        · exact .inr (.inr (by simpa [g3] using g2))
        · exact .inr (.inl (by simpa using g3))
  cases hbad : pBad i x.op x.n x.l.length q with
  | true =>
    rw [hst, if_pos hbad]
    refine ⟨(fun ps' h => by cases h), fun _ => ?_⟩
    obtain ⟨a4, r4, v2, v3, v4⟩ := c1 hbad
    have hA : evCode Try.prog (callOf cR) lf 153 none (cAt Try.f31 (pN ++ [1, 1, 0])) a2 [] H2 = some (.ret, a4, [], H2) := by
      rw [ev_then (c := cAt Try.f31 (pN ++ [1, 1, 0])) (b := cAt Try.f31 (pN ++ [1, 1, 0, 1])) rfl r3, r4]
    exact ⟨_, _, hstart.trans (ev_stop (c := cAt Try.f31 (pN ++ [1, 1])) (a := cAt Try.f31 (pN ++ [1, 1, 0])) (b := cAt Try.f31 (pN ++ [1, 1, 1])) rfl hA (by simp)), v2, v3, v4, hH2.ext⟩
  | false =>
    rw [hst, if_neg (by simp [hbad])]
    have r4 := c2 hbad
    have hA : evCode Try.prog (callOf cR) lf 153 none (cAt Try.f31 (pN ++ [1, 1, 0])) a2 [] H2 = some (.normal, a3, [], H2) := by
      rw [ev_then (c := cAt Try.f31 (pN ++ [1, 1, 0])) (b := cAt Try.f31 (pN ++ [1, 1, 0, 1])) rfl r3, r4]
    obtain ⟨a5, r5, k5', k11⟩ := r_R17 (call := callOf cR) (lf := lf) (env := a3) (H := H2)
    have hB : evCode Try.prog (callOf cR) lf 153 none (cAt Try.f31 (pN ++ [1, 1])) a2 [] H2 = evCode Try.prog (callOf cR) lf 153 none (cAt Try.f31 (pN ++ [1, 1, 1, 1])) a5 [] H2 := by
      rw [ev_then (c := cAt Try.f31 (pN ++ [1, 1])) (b := cAt Try.f31 (pN ++ [1, 1, 1])) rfl hA, ev_then (c := cAt Try.f31 (pN ++ [1, 1, 1])) (b := cAt Try.f31 (pN ++ [1, 1, 1, 1])) rfl r5]
    have hv64 : q.vars ≤ 64 := by
      simp only [pBad, Bool.or_eq_false_iff, decide_eq_false_iff_not] at hbad
      omega
    obtain ⟨g1, g2⟩ := q_loop (call := callOf cR) (lf := lf) (H0 := H0) (b0 := b0) (b1 := b1) (b9 := b9) (i := i) (n := n) (op := x.op) (p := p) (s := s) (l := l) (ov := .int .i64 x.op) (nv := .int .i64 x.n) (qi := q) hl n9 hi ⟨hqv, hv64⟩ hll x.l 0 lf a5 H2 ps hlf rfl (Nat.zero_le _) hH2 h9 hq
      (k5'.1.trans (t1.trans e1)) (k5'.2.1.trans (t5.trans e5)) (k5'.2.2.1.trans (t6.trans e6)) (k5'.2.2.2.1.trans (t8.trans e8)) (k5'.2.2.2.2.1.trans t9) (k5'.2.2.2.2.2.trans t10) k11
    have hblk : evCode Try.prog (callOf cR) lf 153 none (cAt Try.f31 (pN ++ [1, 1, 1, 1])) a5 [] H2 = match evLoop Try.prog (callOf cR) lf 153 none (cAt Try.f31 pQ) lf a5 [] H2 with
        | some (.exit id', env', ds', H') => if id' = 4 then some (.normal, env', ds', H') else some (.exit id', env', ds', H')
        | r => r := by
      rw [show cAt Try.f31 (pN ++ [1, 1, 1, 1]) = .block 4 (.loop (cAt Try.f31 pQ)) from rfl, evCode_block, evCode_loop]
      rfl
    constructor
    · intro ps' h
      obtain ⟨a6, H6, r6, k6', hH6⟩ := g1 ps' h
      rw [r6] at hblk
      refine ⟨a6, H6, hstart.trans (hB.trans (hblk.trans (by simp))), k6'.1.trans (k5'.1.trans t1), k6'.2.1.trans (k5'.2.1.trans t5), k6'.2.2.1.trans (k5'.2.2.1.trans t6), k6'.2.2.2.1.trans (k5'.2.2.2.1.trans t8), hH6⟩
    · intro h
      obtain ⟨a6, H6, r6, v2, v3, v4, x6⟩ := g2 h
      rw [r6] at hblk
      exact ⟨a6, H6, hstart.trans (hB.trans hblk), v2, v3, v4, x6⟩
end Go.Proofs.Ytpopkajkekceiaa

namespace Go.Proofs.Ytpopkajkekceiaa
open Go Go.Abs
set_option maxRecDepth 100000
set_option linter.unusedSimpArgs false
set_option linter.unusedVariables false

theorem r_head {call : CallF} {lf : Nat} {env : Env} {H : Heap} {i n : Nat} (e5 : env.val 5 = .int .i64 n) (e8 : env.val 8 = .int .i64 i) (hi : i < n) :
    ∃ env', evCode Try.prog call lf 153 none (cAt Try.f31 (pM ++ [0])) env [] H = some (.normal, env', [], H) ∧ env'.val 1 = env.val 1 ∧ env'.val 5 = env.val 5 ∧ env'.val 6 = env.val 6 ∧ env'.val 8 = env.val 8 := by
  have c1 : (i : Int) < (n : Int) := by omega
  generalize hr : evCode Try.prog call lf 153 none (cAt Try.f31 (pM ++ [0])) env [] H = out
  simp [pM, Try.f31, e5, e8, c1] at hr
  subst hr
  exact ⟨_, rfl, by simp [e5, e8]⟩
theorem r_exit {call : CallF} {lf : Nat} {env : Env} {H : Heap} {i n : Nat} (e5 : env.val 5 = .int .i64 n) (e8 : env.val 8 = .int .i64 i) (hi : n ≤ i) :
    ∃ env', evCode Try.prog call lf 153 none (cAt Try.f31 pM) env [] H = some (.exit 2, env', [], H) ∧ env'.val 6 = env.val 6 := by
  have c1 : ¬ (i : Int) < (n : Int) := by omega
  generalize hr : evCode Try.prog call lf 153 none (cAt Try.f31 pM) env [] H = out
  simp [pM, Try.f31, e5, e8, c1] at hr
  subst hr
  exact ⟨_, rfl, by simp⟩
theorem r_R12 {call : CallF} {lf : Nat} {env : Env} {H : Heap} {i : Nat} (e8 : env.val 8 = .int .i64 i) (hi : i < 1099511627776) :
    ∃ env', evCode Try.prog call lf 153 none (cAt Try.f31 (pM ++ [1, 1])) env [] H = some (.normal, env', [], H) ∧ env'.val 1 = env.val 1 ∧ env'.val 5 = env.val 5 ∧ env'.val 6 = env.val 6 ∧ env'.val 8 = .int .i64 ((i + 1 : Nat) : Int) := by
  have w1 : IntKind.i64.wrap ((i : Int) + 1) = (i : Int) + 1 := wrapI (by omega) (by omega)
  generalize hr : evCode Try.prog call lf 153 none (cAt Try.f31 (pM ++ [1, 1])) env [] H = out
  simp [pM, Try.f31, e8, w1] at hr
  subst hr
  exact ⟨_, rfl, by simp⟩

/-- The outer loop. -/
theorem r_loop {lf : Nat} {H0 : Heap} {b0 b1 n : Nat} {p s : Value} {xs : List (List Value)} (hs : rdS H0 3 s = some xs) (hn : n ≤ 200) : ∀ (rest : List NodeD) (i m : Nat) (env : Env) (H : Heap) (ps : List Rp), rest.length < m → n = i + rest.length →
    (∀ (j : Nat) x, rest[j]? = some x → ∃ l, xs[i + j]? = some [.int .i64 x.op, .int .i64 x.n, l] ∧ rdInts H0 .i64 l = some x.l ∧ x.l.length < 1099511627776 ∧ x.l.length < lf) →
    QHeap H0 H b0 b1 n p s ps → (∀ q ∈ ps, 0 ≤ q.vars) → env.val 1 = .pointer (some ⟨b0, 0, none⟩) → env.val 5 = .int .i64 n → env.val 6 = .slice (some ⟨b1, 0, none⟩) n n → env.val 8 = .int .i64 i →
    (∀ ps', pFrom n i rest ps = .ok ps' → ∃ env' H', evLoop Try.prog (callOf cR) lf 153 none (cAt Try.f31 pM) m env [] H = some (.exit 2, env', [], H') ∧ env'.val 6 = .slice (some ⟨b1, 0, none⟩) n n ∧ QHeap H0 H' b0 b1 n p s ps') ∧
    (∀ a, pFrom n i rest ps = .error a → ∃ env' H', evLoop Try.prog (callOf cR) lf 153 none (cAt Try.f31 pM) m env [] H = some (.ret, env', [], H') ∧ env'.val 2 = .slice none 0 0 ∧ env'.val 3 = .int .i64 a ∧ env'.val 4 = .bool true ∧ Ext H0 H')
  | rest, i, 0, env, H, ps, hm, _, _, _, _, _, _, _, _ => by omega
  | [], i, m + 1, env, H, ps, hm, hl, hx, hH, hp, e1, e5, e6, e8 => by
    obtain ⟨env', he, hv⟩ := r_exit (call := callOf cR) (lf := lf) (H := H) e5 e8 (by simp at hl; omega)
    simp only [evLoop_succ, he]
    exact ⟨fun ps' h => by simp only [pFrom, Except.ok.injEq] at h; subst h; exact ⟨_, _, rfl, hv.trans e6, hH⟩, fun a h => by simp [pFrom] at h⟩
  | x :: rest, i, m + 1, env, H, ps, hm, hl, hx, hH, hp, e1, e5, e6, e8 => by
    have hin : i < n := by simp at hl; omega
    obtain ⟨l, hxi, hli, hll, hlf⟩ := hx 0 x rfl
    obtain ⟨a1, r1, f1, f5, f6, f8⟩ := r_head (call := callOf cR) (lf := lf) (H := H) e5 e8 hin
    obtain ⟨g1, g2⟩ := r_body (lf := lf) (env := a1) hH hs hxi hli hin hll hlf hp (f1.trans e1) (f5.trans e5) (f6.trans e6) (f8.trans e8)
    have hblk : evCode Try.prog (callOf cR) lf 153 none (cAt Try.f31 (pM ++ [1, 0])) a1 [] H = match evCode Try.prog (callOf cR) lf 153 none (cAt Try.f31 pN) a1 [] H with
        | some (.exit id', env', ds', H') => if id' = 3 then some (.normal, env', ds', H') else some (.exit id', env', ds', H')
        | r => r := by
      rw [show cAt Try.f31 (pM ++ [1, 0]) = .block 3 (cAt Try.f31 pN) from rfl, evCode_block]
      rfl
    have hstart : evCode Try.prog (callOf cR) lf 153 none (cAt Try.f31 pM) env [] H = evCode Try.prog (callOf cR) lf 153 none (cAt Try.f31 (pM ++ [1])) a1 [] H :=
      ev_then (c := cAt Try.f31 pM) (b := cAt Try.f31 (pM ++ [1])) rfl r1
    cases hst : pStep n i x ps with
    | none =>
      obtain ⟨a2, H2, r2, v2, v3, v4, x2⟩ := g2 hst
      rw [r2] at hblk
      have he := hstart.trans (ev_stop (c := cAt Try.f31 (pM ++ [1])) (a := cAt Try.f31 (pM ++ [1, 0])) (b := cAt Try.f31 (pM ++ [1, 1])) rfl hblk (by simp))
      simp only [evLoop_succ, he, pFrom, hst]
      exact ⟨(fun ps' h => by cases h), fun a h => by cases h; exact ⟨_, _, rfl, v2, v3, v4, x2⟩⟩
    | some ps' =>
      obtain ⟨a2, H2, r2, k1, k5, k6, k8, hH2⟩ := g1 ps' hst
      rw [r2] at hblk
      obtain ⟨a3, r3, m1, m5, m6, m8⟩ := r_R12 (call := callOf cR) (lf := lf) (env := a2) (H := H2) (i := i) (k8.trans (f8.trans e8)) (by omega)
      have he := hstart.trans ((ev_then (c := cAt Try.f31 (pM ++ [1])) (b := cAt Try.f31 (pM ++ [1, 1])) rfl hblk).trans r3)
      simp only [evLoop_succ, he, pFrom, hst]
      exact r_loop hs hn rest (i + 1) m a3 H2 ps' (by simp at hm; omega) (by simp at hl; omega) (fun j y hy => by
          obtain ⟨l, a, b⟩ := hx (j + 1) y (by simpa using hy)
          exact ⟨l, by rw [← a]; congr 1; omega, b⟩) hH2 (pStep_good hst hp).2 (m1.trans (k1.trans (f1.trans e1))) (m5.trans (k5.trans (f5.trans e5))) (m6.trans (k6.trans (f6.trans e6))) m8

/-! ### The table, made -/
def pI : List Nat := [1, 1, 1, 1, 0, 1, 0, 0]
theorem i_step {call : CallF} {lf : Nat} {env : Env} {H0 H : Heap} {b0 b1 i n : Nat} {p s : Value} {ps : List Rp} (hH : QHeap H0 H b0 b1 n p s ps) (hi : i < n) (hn : n ≤ 200)
    (e5 : env.val 5 = .int .i64 n) (e6 : env.val 6 = .slice (some ⟨b1, 0, none⟩) n n) (e7 : env.val 7 = .int .i64 i) :
    ∃ env', evCode Try.prog call lf 153 none (cAt Try.f31 pI) env [] H = some (.normal, env', [], H.set b1 (.cells true 2 (flatR (ps.set i ⟨-1, 0⟩)))) ∧ env'.val 1 = env.val 1 ∧ env'.val 5 = env.val 5 ∧ env'.val 6 = env.val 6 ∧ env'.val 7 = .int .i64 ((i + 1 : Nat) : Int) := by
  have c1 : (i : Int) < (n : Int) := by omega
  have w1 : IntKind.i64.wrap ((i : Int) + 1) = (i : Int) + 1 := wrapI (by omega) (by omega)
  have i3 := indexR (b := b1) (c := n) (m := n) (i := (i : Int)) (by omega) (by omega)
  simp only [Int.toNat_natCast] at i3
  have st := storeR (v := -1) (w := 0) hH.h1 (i := i) (by have := hH.hm; omega)
  generalize hr : evCode Try.prog call lf 153 none (cAt Try.f31 pI) env [] H = out
  simp [pI, Try.f31, e5, e6, e7, c1, i3, built69, st, w1] at hr
  subst hr
  exact ⟨_, rfl, by simp [e5, e6]⟩
theorem i_exit {call : CallF} {lf : Nat} {env : Env} {H : Heap} {i n : Nat} (e5 : env.val 5 = .int .i64 n) (e7 : env.val 7 = .int .i64 i) (hi : n ≤ i) :
    ∃ env', evCode Try.prog call lf 153 none (cAt Try.f31 pI) env [] H = some (.exit 0, env', [], H) ∧ env'.val 1 = env.val 1 ∧ env'.val 5 = env.val 5 ∧ env'.val 6 = env.val 6 := by
  have c1 : ¬ (i : Int) < (n : Int) := by omega
  generalize hr : evCode Try.prog call lf 153 none (cAt Try.f31 pI) env [] H = out
  simp [pI, Try.f31, e5, e7, c1] at hr
  subst hr
  exact ⟨_, rfl, by simp [e5]⟩
theorem i_loop {call : CallF} {lf : Nat} {H0 : Heap} {b0 b1 n : Nat} {p s : Value} (hn : n ≤ 200) : ∀ (d i m : Nat) (env : Env) (H : Heap) (ps : List Rp), n = i + d → d < m → QHeap H0 H b0 b1 n p s ps → (∀ j, j < i → ps[j]? = some ⟨-1, 0⟩) →
    env.val 5 = .int .i64 n → env.val 6 = .slice (some ⟨b1, 0, none⟩) n n → env.val 7 = .int .i64 i →
    ∃ env' H', evLoop Try.prog call lf 153 none (cAt Try.f31 pI) m env [] H = some (.exit 0, env', [], H') ∧ env'.val 1 = env.val 1 ∧ env'.val 5 = env.val 5 ∧ env'.val 6 = env.val 6 ∧ QHeap H0 H' b0 b1 n p s (List.replicate n ⟨-1, 0⟩)
  | d, i, 0, env, H, ps, _, hm, _, _, _, _, _ => by omega
  | 0, i, m + 1, env, H, ps, hd, hm, hH, hj, e5, e6, e7 => by
    obtain ⟨env', he, k1, k5, k6⟩ := i_exit (call := call) (lf := lf) (H := H) e5 e7 (by omega)
    simp only [evLoop_succ, he]
    have : ps = List.replicate n ⟨-1, 0⟩ := by
      apply List.ext_getElem?
      intro j
      by_cases hjn : j < n
      · rw [hj j (by omega)]; simp [hjn]
      · rw [List.getElem?_eq_none (by have := hH.hm; omega), List.getElem?_eq_none (by simp; omega)]
    subst this
    exact ⟨_, _, rfl, k1, k5, k6, hH⟩
  | d + 1, i, m + 1, env, H, ps, hd, hm, hH, hj, e5, e6, e7 => by
    obtain ⟨env', he, k1, k5, k6, k7⟩ := i_step (call := call) (lf := lf) hH (by omega) hn e5 e6 e7
    simp only [evLoop_succ, he]
    obtain ⟨e2, H2, r2, l1, l5, l6, hH2⟩ := i_loop hn d (i + 1) m env' _ _ (by omega) (by omega) (hH.put (ps' := ps.set i ⟨-1, 0⟩) (by simp)) (fun j hj' => by
      by_cases hji : j = i
      · subst hji; rw [List.getElem?_set_self (by have := hH.hm; omega)]
      · rw [List.getElem?_set_ne (Ne.symm hji)]; exact hj j (by omega)) (k5.trans e5) (k6.trans e6) k7
    exact ⟨e2, H2, r2, l1.trans k1, l5.trans k5, l6.trans k6, hH2⟩
end Go.Proofs.Ytpopkajkekceiaa

namespace Go.Proofs.Ytpopkajkekceiaa
open Go Go.Abs
set_option maxRecDepth 100000
set_option linter.unusedSimpArgs false
set_option linter.unusedVariables false

theorem p_R01 {call : CallF} {lf : Nat} {H : Heap} {p s : Value} {xs : List (List Value)} (ho : oneC p = true) (hs1 : oneC s = true) (hs : rdS H 3 s = some xs) (hw : H.Wf) :
    ∃ env', evCode Try.prog call lf 153 none (cAt Try.f31 []) (envOf 0 [.agg #[p, s]] .nil) [] H = evCode Try.prog call lf 153 none (cAt Try.f31 [1, 1]) env' [] (H.push (.cells true 2 [p, s])) ∧
      env'.val 1 = .pointer (some ⟨H.next, 0, none⟩) ∧ env'.val 5 = .int .i64 xs.length := by
  have hx1 := Ext.push hw (.cells true 2 [p, s])
  have h0 := get_push_self H (.cells true 2 [p, s])
  have hb := len_of (H' := H.push (.cells true 2 [p, s])) (P := Try.prog) (t := 22) (rdS_ext hx1 hs) Try.underlying22
  have ld1 : loadA Try.prog 22 (H.push (.cells true 2 [p, s])) H.next 1 = some s := by simp [loadA, h0]
  have r0 : ∃ e, evCode Try.prog call lf 153 none (cAt Try.f31 [0]) (envOf 0 [.agg #[p, s]] .nil) [] H = some (.normal, e, [], H.push (.cells true 2 [p, s])) ∧ e.val 1 = .pointer (some ⟨H.next, 0, none⟩) := by
    generalize hr : evCode Try.prog call lf 153 none (cAt Try.f31 [0]) (envOf 0 [.agg #[p, s]] .nil) [] H = out
    simp [Try.f31, ho, hs1] at hr
    subst hr
    exact ⟨_, rfl, by simp⟩
  obtain ⟨e, r0, v1⟩ := r0
  have r1 : ∃ e', evCode Try.prog call lf 153 none (cAt Try.f31 [1, 0]) e [] (H.push (.cells true 2 [p, s])) = some (.normal, e', [], H.push (.cells true 2 [p, s])) ∧ e'.val 1 = .pointer (some ⟨H.next, 0, none⟩) ∧ e'.val 5 = .int .i64 xs.length := by
    generalize hr : evCode Try.prog call lf 153 none (cAt Try.f31 [1, 0]) e [] (H.push (.cells true 2 [p, s])) = out
    simp [Try.f31, v1, ld1, hb] at hr
    subst hr
    exact ⟨_, rfl, by simp [v1]⟩
  obtain ⟨e', r1, v1', v5⟩ := r1
  exact ⟨e', by rw [ev_then (c := cAt Try.f31 []) (b := cAt Try.f31 [1]) rfl r0, ev_then (c := cAt Try.f31 [1]) (b := cAt Try.f31 [1, 1]) rfl r1], v1', v5⟩

theorem p_R2 {call : CallF} {lf : Nat} {env : Env} {H : Heap} {b0 n : Nat} {p : Int} {s : Value} (h0 : H.get b0 = some (.cells true 2 [.int .i64 p, s])) (e1 : env.val 1 = .pointer (some ⟨b0, 0, none⟩)) (e5 : env.val 5 = .int .i64 n) :
    ((p < 0 ∨ 9 < p ∨ n < 1 ∨ 200 < n) → ∃ env', evCode Try.prog call lf 153 none (cAt Try.f31 [1, 1, 0]) env [] H = some (.ret, env', [], H) ∧ env'.val 2 = .slice none 0 0 ∧ env'.val 3 = .int .i64 0 ∧ env'.val 4 = .bool true) ∧
    (¬ (p < 0 ∨ 9 < p ∨ n < 1 ∨ 200 < n) → ∃ env', evCode Try.prog call lf 153 none (cAt Try.f31 [1, 1, 0]) env [] H = some (.normal, env', [], H) ∧ env'.val 1 = env.val 1 ∧ env'.val 5 = env.val 5) := by
  have ld0 : loadA Try.prog 3 H b0 0 = some (.int .i64 p) := by simp [loadA, h0]
  generalize hr : evCode Try.prog call lf 153 none (cAt Try.f31 [1, 1, 0]) env [] H = out
  by_cases g1 : p < 0
  · simp [Try.f31, e1, e5, ld0, g1] at hr
    subst hr
    exact ⟨fun _ => ⟨_, rfl, by simp⟩, fun h => absurd (.inl g1) h⟩
  · by_cases g2 : 9 < p
    · simp [Try.f31, e1, e5, ld0, g1, g2] at hr
      subst hr
      exact ⟨fun _ => ⟨_, rfl, by simp⟩, fun h => absurd (.inr (.inl g2)) h⟩
    · by_cases g3 : n < 1
      · have g3' : (n : Int) < 1 := by omega
        simp [Try.f31, e1, e5, ld0, g1, g2, g3, g3'] at hr
        subst hr
        exact ⟨fun _ => ⟨_, rfl, by simp⟩, fun h => absurd (.inr (.inr (.inl g3))) h⟩
      · have g3' : ¬ (n : Int) < 1 := by omega
        by_cases g4 : 200 < n
        · have g4' : (200 : Int) < n := by omega
          simp [Try.f31, e1, e5, ld0, g1, g2, g3, g3', g4, g4'] at hr
          subst hr
          exact ⟨fun _ => ⟨_, rfl, by simp⟩, fun h => absurd (.inr (.inr (.inr g4))) h⟩
        · have g4' : ¬ (200 : Int) < n := by omega
          simp [Try.f31, e1, e5, ld0, g1, g2, g3, g3', g4, g4'] at hr
          subst hr
          exact ⟨fun h => by omega, fun _ => ⟨_, rfl, by simp [e1, e5]⟩⟩

theorem p_R45 {call : CallF} {lf : Nat} {env : Env} {H : Heap} {n : Nat} (hn : n ≤ 200) (e5 : env.val 5 = .int .i64 n) :
    ∃ env', evCode Try.prog call lf 153 none (cAt Try.f31 [1, 1, 1]) env [] H = (match evCode Try.prog call lf 153 none (cAt Try.f31 [1, 1, 1, 1, 0, 1]) env' [] (H.push (.cells true 2 (flatR (List.replicate n ⟨0, 0⟩)))) with
        | some (.normal, e, ds, h) => evCode Try.prog call lf 153 none (cAt Try.f31 [1, 1, 1, 1, 1]) e ds h
        | r => r) ∧ env'.val 1 = env.val 1 ∧ env'.val 5 = env.val 5 ∧ env'.val 6 = .slice (some ⟨H.next, 0, none⟩) n n ∧ env'.val 7 = .int .i64 ((0 : Nat) : Int) := by
  have mk := makeR (H := H) (m := n) hn
  have r4 : ∃ e, evCode Try.prog call lf 153 none (cAt Try.f31 [1, 1, 1, 0]) env [] H = some (.normal, e, [], H.push (.cells true 2 (flatR (List.replicate n ⟨0, 0⟩)))) ∧ e.val 1 = env.val 1 ∧ e.val 5 = env.val 5 ∧ e.val 6 = .slice (some ⟨H.next, 0, none⟩) n n := by
    generalize hr : evCode Try.prog call lf 153 none (cAt Try.f31 [1, 1, 1, 0]) env [] H = out
    simp [Try.f31, e5, mk] at hr
    subst hr
    exact ⟨_, rfl, by simp [e5]⟩
  obtain ⟨e, r4, k1, k5, k6⟩ := r4
  have r5 : ∃ e', evCode Try.prog call lf 153 none (cAt Try.f31 [1, 1, 1, 1, 0, 0]) e [] (H.push (.cells true 2 (flatR (List.replicate n ⟨0, 0⟩)))) = some (.normal, e', [], H.push (.cells true 2 (flatR (List.replicate n ⟨0, 0⟩)))) ∧ e'.val 1 = e.val 1 ∧ e'.val 5 = e.val 5 ∧ e'.val 6 = e.val 6 ∧ e'.val 7 = .int .i64 ((0 : Nat) : Int) := by
    generalize hr : evCode Try.prog call lf 153 none (cAt Try.f31 [1, 1, 1, 1, 0, 0]) e [] (H.push (.cells true 2 (flatR (List.replicate n ⟨0, 0⟩)))) = out
    simp [Try.f31] at hr
    subst hr
    exact ⟨_, rfl, by simp⟩
  obtain ⟨e', r5, m1, m5, m6, m7⟩ := r5
  refine ⟨e', ?_, m1.trans k1, m5.trans k5, m6.trans k6, m7⟩
  rw [ev_then (c := cAt Try.f31 [1, 1, 1]) (b := cAt Try.f31 [1, 1, 1, 1]) rfl r4, show cAt Try.f31 [1, 1, 1, 1] = .seq (cAt Try.f31 [1, 1, 1, 1, 0]) (cAt Try.f31 [1, 1, 1, 1, 1]) from rfl, evCode_seq,
    ev_then (c := cAt Try.f31 [1, 1, 1, 1, 0]) (b := cAt Try.f31 [1, 1, 1, 1, 0, 1]) rfl r5]
  rfl

theorem p_R9 {call : CallF} {lf : Nat} {env : Env} {H0 H : Heap} {b0 b1 n : Nat} {p : Int} {s : Value} {ps : List Rp} {q : Rp} (hH : QHeap H0 H b0 b1 n (.int .i64 p) s ps) (hn : 0 < n) (hq : ps[0]? = some q)
    (e1 : env.val 1 = .pointer (some ⟨b0, 0, none⟩)) (e5 : env.val 5 = .int .i64 n) (e6 : env.val 6 = .slice (some ⟨b1, 0, none⟩) n n) :
    ∃ env', evCode Try.prog call lf 153 none (cAt Try.f31 [1, 1, 1, 1, 1]) env [] H = (match evCode Try.prog call lf 153 none (cAt Try.f31 [1, 1, 1, 1, 1, 1, 0, 1]) env' [] (H.set b1 (.cells true 2 (flatR (ps.set 0 { q with vars := p })))) with
        | some (.normal, e, ds, h) => evCode Try.prog call lf 153 none (cAt Try.f31 [1, 1, 1, 1, 1, 1, 1]) e ds h
        | r => r) ∧ env'.val 1 = env.val 1 ∧ env'.val 5 = env.val 5 ∧ env'.val 6 = env.val 6 ∧ env'.val 8 = .int .i64 ((0 : Nat) : Int) := by
  have ld0 : loadA Try.prog 3 H b0 0 = some (.int .i64 p) := by simp [loadA, hH.h0]
  have i3 := indexR (b := b1) (c := n) (m := n) (i := 0) (by omega) (by omega)
  simp at i3
  have st := storeR1 (w := p) hH.h1 hq
  simp at st
  have r4 : ∃ e, evCode Try.prog call lf 153 none (cAt Try.f31 [1, 1, 1, 1, 1, 0]) env [] H = some (.normal, e, [], H.set b1 (.cells true 2 (flatR (ps.set 0 { q with vars := p })))) ∧ e.val 1 = env.val 1 ∧ e.val 5 = env.val 5 ∧ e.val 6 = env.val 6 := by
    generalize hr : evCode Try.prog call lf 153 none (cAt Try.f31 [1, 1, 1, 1, 1, 0]) env [] H = out
    simp [Try.f31, e1, e6, ld0, i3, st] at hr
    subst hr
    exact ⟨_, rfl, by simp [e1, e5, e6]⟩
  obtain ⟨e, r4, k1, k5, k6⟩ := r4
  generalize H.set b1 (.cells true 2 (flatR (ps.set 0 { q with vars := p }))) = H2 at *
  have r5 : ∃ e', evCode Try.prog call lf 153 none (cAt Try.f31 [1, 1, 1, 1, 1, 1, 0, 0]) e [] H2 = some (.normal, e', [], H2) ∧ e'.val 1 = e.val 1 ∧ e'.val 5 = e.val 5 ∧ e'.val 6 = e.val 6 ∧ e'.val 8 = .int .i64 ((0 : Nat) : Int) := by
    generalize hr : evCode Try.prog call lf 153 none (cAt Try.f31 [1, 1, 1, 1, 1, 1, 0, 0]) e [] H2 = out
    simp [Try.f31] at hr
    subst hr
    exact ⟨_, rfl, by simp⟩
  obtain ⟨e', r5, m1, m5, m6, m7⟩ := r5
  refine ⟨e', ?_, m1.trans k1, m5.trans k5, m6.trans k6, m7⟩
  rw [ev_then (c := cAt Try.f31 [1, 1, 1, 1, 1]) (b := cAt Try.f31 [1, 1, 1, 1, 1, 1]) rfl r4, show cAt Try.f31 [1, 1, 1, 1, 1, 1] = .seq (cAt Try.f31 [1, 1, 1, 1, 1, 1, 0]) (cAt Try.f31 [1, 1, 1, 1, 1, 1, 1]) from rfl, evCode_seq,
    ev_then (c := cAt Try.f31 [1, 1, 1, 1, 1, 1, 0]) (b := cAt Try.f31 [1, 1, 1, 1, 1, 1, 0, 1]) rfl r5]
  rfl

theorem p_R26 {call : CallF} {lf : Nat} {env : Env} {H : Heap} {v : Value} (e6 : env.val 6 = v) :
    ∃ env', evCode Try.prog call lf 153 none (cAt Try.f31 [1, 1, 1, 1, 1, 1, 1]) env [] H = some (.ret, env', [], H) ∧ env'.val 2 = v ∧ env'.val 3 = .int .i64 0 ∧ env'.val 4 = .bool false := by
  generalize hr : evCode Try.prog call lf 153 none (cAt Try.f31 [1, 1, 1, 1, 1, 1, 1]) env [] H = out
  simp [Try.f31, e6] at hr
  subst hr
  exact ⟨_, rfl, by simp⟩

theorem p_end {call : CallF} {lf : Nat} {env : Env} {H : Heap} {a b c : Value} (h2 : env.val 2 = a) (h3 : env.val 3 = b) (h4 : env.val 4 = c) : fnEnd Try.prog call lf Try.f31 (some (.ret, env, [], H)) = some (.ret (.tuple #[a, b, c]), H) := by
  simp [fnEnd, Try.f31, h2, h3, h4]

/-- Places. -/
theorem places_run {lf : Nat} {H : Heap} {v : Value} {f : FunD} (hw : H.Wf) (hf : rdFun H v = some f) (hfit : fits f) (hl1 : f.nodes.length < lf) (hl2 : ∀ x ∈ f.nodes, x.l.length < lf) :
    (∀ i, placesL f = .error i → ∃ H', evFn Try.prog (callOf cR) lf 31 [v] H = some (.ret (.tuple #[.slice none 0 0, .int .i64 i, .bool true]), H') ∧ Ext H H') ∧
    (∀ ps, placesL f = .ok ps → ∃ b1 H', evFn Try.prog (callOf cR) lf 31 [v] H = some (.ret (.tuple #[.slice (some ⟨b1, 0, none⟩) f.nodes.length f.nodes.length, .int .i64 0, .bool false]), H') ∧ Ext H H' ∧ H'.get b1 = some (.cells true 2 (flatR ps)) ∧ ps.length = f.nodes.length) := by
  obtain ⟨s, xs, rfl, hsm, hs, hlen, hx⟩ := rdFun_inv hf
  obtain ⟨_, ho, _, _⟩ := rdS_one hs
  obtain ⟨a1, q1, v1, v5⟩ := p_R01 (call := callOf cR) (lf := lf) (p := .int .i64 f.params) rfl ho hs hw
  have x1 := Ext.push hw (.cells true 2 [.int .i64 f.params, s])
  have w1 := hw.push (.cells true 2 [.int .i64 f.params, s])
  have g1 := get_push_self H (.cells true 2 [.int .i64 f.params, s])
  have hstart : ∀ out, evCode Try.prog (callOf cR) lf 153 none (cAt Try.f31 [1, 1]) a1 [] (H.push (.cells true 2 [.int .i64 f.params, s])) = out → evFn Try.prog (callOf cR) lf 31 [.agg #[.int .i64 f.params, s]] H = fnEnd Try.prog (callOf cR) lf Try.f31 out := by
    intro out h
    rw [evFn_at Try.func31 body31 (by simp), Try.ntmps31, q1, h]
  have hlt1 : H.next < (H.push (.cells true 2 [.int .i64 f.params, s])).next := by simp
  generalize H.push (.cells true 2 [.int .i64 f.params, s]) = H1 at *
  rw [hlen] at v5
  obtain ⟨c1, c2⟩ := p_R2 (call := callOf cR) (lf := lf) g1 v1 v5
  by_cases hbad : f.params < 0 ∨ 9 < f.params ∨ f.nodes.length < 1 ∨ 200 < f.nodes.length
  · have hpl : placesL f = .error 0 := by simp only [placesL, if_pos hbad]
    rw [hpl]
    refine ⟨fun i hi => ?_, fun ps h => by cases h⟩
    cases hi
    obtain ⟨a2, r2, y2, y3, y4⟩ := c1 hbad
    refine ⟨_, (hstart _ (ev_stop (c := cAt Try.f31 [1, 1]) (a := cAt Try.f31 [1, 1, 0]) (b := cAt Try.f31 [1, 1, 1]) rfl r2 (by simp))).trans (p_end y2 y3 y4), x1⟩
  · have hpl : placesL f = pFrom f.nodes.length 0 f.nodes ((List.replicate f.nodes.length ⟨-1, 0⟩).set 0 ⟨-1, f.params⟩) := by simp only [placesL, if_neg hbad]
    rw [hpl]
    obtain ⟨a2, r2, y1, y5⟩ := c2 hbad
    obtain ⟨a3, r3, z1, z5, z6, z7⟩ := p_R45 (call := callOf cR) (lf := lf) (H := H1) (n := f.nodes.length) (by omega) (y5.trans v5)
    have hQ : QHeap H (H1.push (.cells true 2 (flatR (List.replicate f.nodes.length ⟨0, 0⟩)))) H.next H1.next f.nodes.length (.int .i64 f.params) s (List.replicate f.nodes.length ⟨0, 0⟩) :=
      ⟨w1.push _, x1.to_push w1 _, by
        have := ext_none x1 w1
        exact this, by rw [get_push_ne (by omega)]; exact g1, get_push_self _ _, by simp, by omega⟩
    obtain ⟨a4, H4, r4, k1, k5, k6, hQ4⟩ := i_loop (call := callOf cR) (lf := lf) (n := f.nodes.length) (by omega) f.nodes.length 0 lf a3 _ _ (by omega) hl1 hQ (fun j hj => by omega) (z5.trans (y5.trans v5)) z6 z7
    have hblk1 : evCode Try.prog (callOf cR) lf 153 none (cAt Try.f31 [1, 1, 1, 1, 0, 1]) a3 [] (H1.push (.cells true 2 (flatR (List.replicate f.nodes.length ⟨0, 0⟩)))) = some (.normal, a4, [], H4) := by
      rw [show cAt Try.f31 [1, 1, 1, 1, 0, 1] = .block 0 (.loop (cAt Try.f31 pI)) from rfl, evCode_block, evCode_loop, r4]
      simp
    rw [hblk1] at r3
    obtain ⟨a5, r5, m1, m5, m6, m8⟩ := p_R9 (call := callOf cR) (lf := lf) (env := a4) (q := ⟨-1, 0⟩) hQ4 (by omega) (by rw [List.getElem?_replicate, if_pos (by omega)]) (k1.trans (z1.trans (y1.trans v1))) (k5.trans (z5.trans (y5.trans v5))) (k6.trans z6)
    have hQ5 := hQ4.put (ps' := (List.replicate f.nodes.length ⟨-1, 0⟩).set 0 ⟨-1, f.params⟩) (by simp)
    simp only at r5
    generalize H4.set H1.next (.cells true 2 (flatR ((List.replicate f.nodes.length ⟨-1, 0⟩).set 0 ⟨-1, f.params⟩))) = H5 at *
    obtain ⟨lok, lerr⟩ := r_loop (lf := lf) (H0 := H) (b0 := H.next) (b1 := H1.next) (n := f.nodes.length) (p := .int .i64 f.params) (s := s) hs (by omega) f.nodes 0 lf a5 H5 _ hl1 (by omega) (fun j x hj => by
        obtain ⟨l, q1, q2, q3⟩ := hx j x hj
        have hm := List.mem_of_getElem? hj
        exact ⟨l, by rw [← q1]; congr 1; omega, q3, hfit x hm, hl2 x hm⟩) hQ5 (fun q hq => by
        rcases List.mem_or_eq_of_mem_set hq with hq | rfl
        · rw [List.mem_replicate] at hq; rw [hq.2]; simp
        · simp only; omega) (m1.trans (k1.trans (z1.trans (y1.trans v1)))) (m5.trans (k5.trans (z5.trans (y5.trans v5)))) (m6.trans (k6.trans z6)) m8
    have hblk2 : evCode Try.prog (callOf cR) lf 153 none (cAt Try.f31 [1, 1, 1, 1, 1, 1, 0, 1]) a5 [] H5 = match evLoop Try.prog (callOf cR) lf 153 none (cAt Try.f31 pM) lf a5 [] H5 with
        | some (.exit id', env', ds', H') => if id' = 2 then some (.normal, env', ds', H') else some (.exit id', env', ds', H')
        | r => r := by
      rw [show cAt Try.f31 [1, 1, 1, 1, 1, 1, 0, 1] = .block 2 (.loop (cAt Try.f31 pM)) from rfl, evCode_block, evCode_loop]
      rfl
    have hall : evFn Try.prog (callOf cR) lf 31 [.agg #[.int .i64 f.params, s]] H = fnEnd Try.prog (callOf cR) lf Try.f31 (match evCode Try.prog (callOf cR) lf 153 none (cAt Try.f31 [1, 1, 1, 1, 1, 1, 0, 1]) a5 [] H5 with
        | some (.normal, e, ds, h) => evCode Try.prog (callOf cR) lf 153 none (cAt Try.f31 [1, 1, 1, 1, 1, 1, 1]) e ds h
        | r => r) := hstart _ ((ev_then (c := cAt Try.f31 [1, 1]) (b := cAt Try.f31 [1, 1, 1]) rfl r2).trans (r3.trans r5))
    constructor
    · intro i hi
      obtain ⟨a6, H6, r6, u2, u3, u4, x6⟩ := lerr i hi
      rw [hblk2, r6] at hall
      exact ⟨_, hall.trans (p_end u2 u3 u4), x6⟩
    · intro ps hps
      obtain ⟨a6, H6, r6, u6, hQ6⟩ := lok ps hps
      obtain ⟨a7, r7, u2, u3, u4⟩ := p_R26 (call := callOf cR) (lf := lf) (H := H6) u6
      rw [hblk2, r6] at hall
      simp only [if_true] at hall
      rw [r7] at hall
      exact ⟨_, _, hall.trans (p_end u2 u3 u4), hQ6.ext, hQ6.h1, hQ6.hm⟩
end Go.Proofs.Ytpopkajkekceiaa

namespace Go.Proofs.Ytpopkajkekceiaa
open Go Go.Abs
set_option maxRecDepth 100000
set_option linter.unusedSimpArgs false
set_option linter.unusedVariables false

/-! ### The plain law: what looked comes to is what Places comes to -/
theorem shape_eq {op n vars : Int} {len : Nat} (ho : 0 ≤ op ∧ op ≤ 24) (hv : 0 ≤ vars ∧ vars ≤ 64) :
    (numberOk (shapeOf op.toNat).1 n vars = true ∧ withinL [len, (shapeOf op.toNat).2.1, (shapeOf op.toNat).2.2, vars, 0, 64] = true) ↔ (beneathL op len = true ∧ numberL op n vars = true) := by
  have : op = 0 ∨ op = 1 ∨ op = 2 ∨ op = 3 ∨ op = 4 ∨ op = 5 ∨ op = 6 ∨ op = 7 ∨ op = 8 ∨ op = 9 ∨ op = 10 ∨ op = 11 ∨ op = 12 ∨ op = 13 ∨ op = 14 ∨ op = 15 ∨ op = 16 ∨ op = 17 ∨ op = 18 ∨ op = 19 ∨ op = 20 ∨ op = 21 ∨ op = 22 ∨ op = 23 ∨ op = 24 := by omega
  rcases this with rfl | rfl | rfl | rfl | rfl | rfl | rfl | rfl | rfl | rfl | rfl | rfl | rfl | rfl | rfl | rfl | rfl | rfl | rfl | rfl | rfl | rfl | rfl | rfl | rfl <;>
    simp [shapeOf, withinL, beneathL, numberL, namesL, numberOk] <;> omega

def toR (i : Nat) (p : Pl) (q : Rp) : Prop :=
  (p.has = true → q.vars = p.vars ∧ 0 ≤ p.vars ∧ 0 ≤ p.above ∧ q.above = if i = 0 then -1 else p.above) ∧ (p.has = false → q.above = -1 ∧ i ≠ 0)
structure relP (ps : List Pl) (rs : List Rp) : Prop where
  len : ps.length = rs.length
  each : ∀ (i : Nat) p q, ps[i]? = some p → rs[i]? = some q → toR i p q

theorem relP.set {ps : List Pl} {rs : List Rp} (h : relP ps rs) {c : Nat} (hc : c ≠ 0) {i : Nat} {vars : Int} (hv : 0 ≤ vars) : relP (ps.set c ⟨i, vars, true⟩) (rs.set c ⟨i, vars⟩) := by
  refine ⟨by simp [h.len], fun j p q hp hq => ?_⟩
  by_cases hj : c = j
  · subst hj
    have h1 : c < ps.length := by have := (List.getElem?_eq_some_iff.1 hp).1; simpa using this
    rw [List.getElem?_set_self h1] at hp
    rw [List.getElem?_set_self (by rw [← h.len]; exact h1)] at hq
    cases hp; cases hq
    exact ⟨fun _ => ⟨rfl, hv, by simp, by simp [hc]⟩, fun hh => by cases hh⟩
  · rw [List.getElem?_set_ne hj] at hp hq
    exact h.each j p q hp hq

theorem kids_eq {n i : Nat} {op vars : Int} (hv : 0 ≤ vars) : ∀ (l : List Int) (k : Nat) (ps : List Pl) (rs : List Rp), relP ps rs → ps.length = n →
    (∀ ps', lookKids n i op vars k l ps = some ps' → ∃ rs', pKids n i op vars k l rs = some rs' ∧ relP ps' rs') ∧ (lookKids n i op vars k l ps = none → pKids n i op vars k l rs = none)
  | [], k, ps, rs, h, hn => ⟨fun ps' hp => by simp only [lookKids, Option.some.injEq] at hp; subst hp; exact ⟨rs, rfl, h⟩, fun hp => by simp [lookKids] at hp⟩
  | c :: cs, k, ps, rs, h, hn => by
    simp only [lookKids, pKids]
    by_cases hc : (i : Int) + 1 ≤ c ∧ c ≤ (n : Int) - 1
    · rw [if_pos hc, if_neg (show ¬ (c ≤ (i : Int) ∨ (n : Int) ≤ c) by omega)]
      have hv' : 0 ≤ (if op = 4 ∧ k = 1 then vars + 1 else vars) := by split <;> omega
      have hlt : c.toNat < ps.length := by omega
      obtain ⟨p, hp⟩ : ∃ p, ps[c.toNat]? = some p := ⟨_, List.getElem?_eq_getElem hlt⟩
      obtain ⟨q, hq⟩ : ∃ q, rs[c.toNat]? = some q := ⟨_, List.getElem?_eq_getElem (by rw [← h.len]; exact hlt)⟩
      rw [hp, hq]
      simp only
      obtain ⟨t1, t2⟩ := h.each c.toNat p q hp hq
      cases hh : p.has with
      | true =>
        obtain ⟨u1, u2, u3, u4⟩ := t1 hh
        rw [if_neg (show ¬ c.toNat = 0 by omega)] at u4
        rw [if_pos rfl, if_pos (show 0 ≤ q.above by omega)]
        exact ⟨(fun ps' h => by cases h), fun _ => rfl⟩
      | false =>
        obtain ⟨u1, u2⟩ := t2 hh
        rw [if_neg (by simp), if_neg (show ¬ 0 ≤ q.above by omega)]
        exact kids_eq hv cs (k + 1) _ _ (h.set (by omega) hv') (by simpa using hn)
    · rw [if_neg hc, if_pos (show c ≤ (i : Int) ∨ (n : Int) ≤ c by omega)]
      exact ⟨(fun ps' h => by cases h), fun _ => rfl⟩

theorem step_eq {n i : Nat} {x : NodeD} {ps : List Pl} {rs : List Rp} (h : relP ps rs) (hn : ps.length = n) :
    (∀ ps', nodeStep n i x ps = some ps' → ∃ rs', pStep n i x rs = some rs' ∧ relP ps' rs') ∧ (nodeStep n i x ps = none → pStep n i x rs = none) := by
  unfold nodeStep pStep
  cases hp : ps[i]? with
  | none =>
    have : rs[i]? = none := by
      rw [List.getElem?_eq_none_iff] at hp ⊢
      rw [← h.len]; exact hp
    rw [this]
    exact ⟨(fun ps' h => by cases h), fun _ => rfl⟩
  | some p =>
    have hlt := (List.getElem?_eq_some_iff.1 hp).1
    obtain ⟨q, hq⟩ : ∃ q, rs[i]? = some q := ⟨_, List.getElem?_eq_getElem (by rw [← h.len]; exact hlt)⟩
    rw [hq]
    simp only
    obtain ⟨t1, t2⟩ := h.each i p q hp hq
    cases hh : p.has with
    | false =>
      obtain ⟨u1, u2⟩ := t2 hh
      rw [if_neg (by simp), if_pos (by omega)]
      exact ⟨(fun ps' h => by cases h), fun _ => rfl⟩
    | true =>
      obtain ⟨u1, u2, u3, u4⟩ := t1 hh
      by_cases hv : 64 < p.vars
      · rw [if_pos (show (0 < i ∧ q.above < 0) ∨ 64 < q.vars by omega)]
        have : ¬ (numberOk (shapeOf x.op.toNat).1 x.n p.vars = true ∧ withinL [x.l.length, (shapeOf x.op.toNat).2.1, (shapeOf x.op.toNat).2.2, p.vars, 0, 64] = true) := by
          rintro ⟨_, h2⟩
          simp only [withinL] at h2
          split at h2
          · cases h2
          · rw [if_pos (by omega)] at h2; cases h2
        rw [if_neg this]
        split <;> exact ⟨(fun ps' h => by cases h), fun _ => rfl⟩
      · rw [if_neg (show ¬ ((0 < i ∧ q.above < 0) ∨ 64 < q.vars) by split at u4 <;> omega), u1]
        by_cases ho : 0 ≤ x.op ∧ x.op ≤ 24
        · rw [if_pos ⟨rfl, ho⟩]
          have he := shape_eq (n := x.n) (len := x.l.length) ho (vars := p.vars) ⟨u2, by omega⟩
          by_cases hc : beneathL x.op x.l.length = true ∧ numberL x.op x.n p.vars = true
          · rw [if_pos (he.2 hc), if_pos hc]
            exact kids_eq u2 x.l 0 ps rs h hn
          · rw [if_neg (fun hh => hc (he.1 hh)), if_neg hc]
            exact ⟨(fun ps' h => by cases h), fun _ => rfl⟩
        · rw [if_neg (fun hh => ho hh.2), beneathL_other ho, if_neg (by simp)]
          exact ⟨(fun ps' h => by cases h), fun _ => rfl⟩

theorem from_eq {n : Nat} : ∀ (xs : List NodeD) (i : Nat) (ps : List Pl) (rs : List Rp), relP ps rs → ps.length = n →
    (∀ ps', lookFrom n i xs ps = .ok ps' → ∃ rs', pFrom n i xs rs = .ok rs' ∧ relP ps' rs') ∧ (∀ a, lookFrom n i xs ps = .error a → pFrom n i xs rs = .error a)
  | [], i, ps, rs, h, hn => ⟨fun ps' hp => by simp only [lookFrom, Except.ok.injEq] at hp; subst hp; exact ⟨rs, rfl, h⟩, fun a hp => by simp [lookFrom] at hp⟩
  | x :: xs, i, ps, rs, h, hn => by
    rw [lookFrom_cons]
    simp only [pFrom]
    obtain ⟨s1, s2⟩ := step_eq (i := i) (x := x) h hn
    cases hs : nodeStep n i x ps with
    | none => rw [s2 hs]; exact ⟨(fun ps' h => by cases h), fun a h => by cases h; rfl⟩
    | some ps' =>
      obtain ⟨rs', e1, e2⟩ := s1 ps' hs
      rw [e1]
      exact from_eq xs (i + 1) ps' rs' e2 ((nodeStep_length hs).trans hn)

theorem looked_eq (f : FunD) : (∀ ps, lookedL f = .ok ps → ∃ rs, placesL f = .ok rs ∧ relP ps rs ∧ ps.length = f.nodes.length) ∧ (∀ a, lookedL f = .error a → placesL f = .error a) := by
  unfold lookedL placesL
  by_cases hb : f.params < 0 ∨ 9 < f.params ∨ f.nodes.length < 1 ∨ 200 < f.nodes.length
  · rw [if_pos hb, if_neg]
    · exact ⟨(fun ps' h => by cases h), fun a h => by cases h; rfl⟩
    · simp only [withinL]
      split
      · simp
      · rw [if_pos (by omega)]; simp
  · rw [if_neg hb, if_pos]
    · have hrel : relP ((List.replicate f.nodes.length ⟨0, 0, false⟩).set 0 ⟨0, f.params, true⟩) ((List.replicate f.nodes.length ⟨-1, 0⟩).set 0 ⟨-1, f.params⟩) := by
        refine ⟨by simp, fun i p q hp hq => ?_⟩
        by_cases hi : i = 0
        · subst hi
          rw [List.getElem?_set_self (by simp; omega)] at hp hq
          cases hp; cases hq
          exact ⟨fun _ => ⟨rfl, by simp only; omega, by simp, by simp⟩, fun h => by cases h⟩
        · rw [List.getElem?_set_ne (Ne.symm hi)] at hp hq
          rw [List.getElem?_replicate] at hp hq
          split at hp
          · rename_i hl
            rw [if_pos hl] at hq
            cases hp; cases hq
            exact ⟨(fun h => by cases h), fun _ => ⟨rfl, hi⟩⟩
          · cases hp
      obtain ⟨h1, h2⟩ := from_eq f.nodes 0 _ _ hrel (n := f.nodes.length) (by simp)
      refine ⟨fun ps hps => ?_, h2⟩
      obtain ⟨rs, a1, a2⟩ := h1 ps hps
      refine ⟨rs, a1, a2, ?_⟩
      clear h1 h2
      have : ∀ (xs : List NodeD) (i : Nat) (ps ps' : List Pl), lookFrom f.nodes.length i xs ps = .ok ps' → ps'.length = ps.length := by
        intro xs
        induction xs with
        | nil => intro i ps ps' h; simp only [lookFrom, Except.ok.injEq] at h; rw [h]
        | cons x xs ih =>
          intro i ps ps' h
          rw [lookFrom_cons] at h
          split at h
          · rename_i ps2 hs; exact (ih _ _ _ h).trans (nodeStep_length hs)
          · cases h
      simpa using this _ _ _ _ hps
    · simp only [withinL]
      rw [if_neg (by omega), if_neg (by omega)]
end Go.Proofs.Ytpopkajkekceiaa

namespace Go.Proofs.Ytpopkajkekceiaa
open Go Go.Abs
set_option maxRecDepth 100000
set_option linter.unusedSimpArgs false
set_option linter.unusedVariables false

theorem with_31 {lf : Nat} {v : Value} {H : Heap} : evWith Try.prog lf cR 1 (.fn 31 [v]) H = evFn Try.prog (callOf cR) lf 31 [v] H := by
  have : callOf cR (.fn 31 [v]) H = none := by
    unfold cR
    rw [callOf_miss (by decide), callOf_miss (by decide)]
    rfl
  simp only [evWith, this]
  rfl

def whereRL (f : FunD) : Int × Int := match placesL f with
  | .error i => ((i : Nat), 60)
  | .ok _ => (0, 0)
theorem whereRL_eq (f : FunD) : whereRL f = whereL f := by
  obtain ⟨h1, h2⟩ := looked_eq f
  unfold whereRL whereL
  cases hl : lookedL f with
  | error a => rw [h2 a hl]
  | ok ps => obtain ⟨rs, e, _⟩ := h1 ps hl; rw [e]

/-- The reference's Where. -/
noncomputable def whereRC : Contract Try.prog := Contract.plain 12
  (fun args H => match args with
    | [v] => (rdFit H v).map fun f => .ret (.tuple #[.int .i64 (whereRL f).1, .int .i64 (whereRL f).2])
    | _ => none) (by
    intro args H res hw hr
    split at hr
    · rename_i v
      obtain ⟨f, hf, rfl⟩ := Option.map_eq_some_iff.1 hr
      obtain ⟨h1, h2⟩ := rdFit_inv hf
      obtain ⟨s, rfl, hs, _, _⟩ := rdFun_cells h1
      have hx := Ext.push hw (.cells true 2 [.int .i64 f.params, s])
      have ld : loadA Try.prog 24 (H.push (.cells true 2 [.int .i64 f.params, s])) H.next 0 = some (.agg #[.int .i64 f.params, s]) := by
        simp [loadA, get_push_self]
      obtain ⟨g1, g2⟩ := places_run (lf := roomOf f) (hw.push (.cells true 2 [.int .i64 f.params, s])) (rdFun_ext hx h1) h2 (roomOf_node f).1 (roomOf_node f).2
      cases hp : placesL f with
      | error i =>
        obtain ⟨H', e1, e2⟩ := g1 i hp
        have hc := (with_31 (lf := roomOf f)).trans e1
        refine ⟨rfl, evWith Try.prog (roomOf f) cR 1, H', evWith_ok _ _ _, 0, ?_, hx.trans e2⟩
        generalize evWith Try.prog (roomOf f) cR 1 = call at hc
        simp [Try.f12, hs, ld, callA, hc, whereRL, hp]
      | ok ps =>
        obtain ⟨b1, H', e1, e2, _⟩ := g2 ps hp
        have hc := (with_31 (lf := roomOf f)).trans e1
        refine ⟨rfl, evWith Try.prog (roomOf f) cR 1, H', evWith_ok _ _ _, 0, ?_, hx.trans e2⟩
        generalize evWith Try.prog (roomOf f) cR 1 = call at hc
        simp [Try.f12, hs, ld, callA, hc, whereRL, hp]
    · cases hr)

noncomputable def c3 : List (Contract Try.prog) := [fewC, worksC, whereC, whereRC, checkC, numC]
theorem c3_few {H : Heap} {v : Value} {f : FunD} (h : rdFun H v = some f) : callOf c3 (.fn 9 [v]) H = some (.ret (.bool (fewL f)), H) := few_hit h
theorem c3_works {H : Heap} : callOf c3 (.fn 10 []) H = some (.ret (.bool true), H) := by
  unfold c3; rw [callOf_miss (by decide)]; exact callOf_hit rfl rfl
theorem c3_where {H : Heap} {v : Value} {f : FunD} (h : rdFit H v = some f) : callOf c3 (.fn 11 [v]) H = some (.ret (.tuple #[.int .i64 (whereL f).1, .int .i64 (whereL f).2]), H) := by
  unfold c3; rw [callOf_miss (by decide), callOf_miss (by decide)]; exact where_hit h
theorem c3_whereR {H : Heap} {v : Value} {f : FunD} (h : rdFit H v = some f) : callOf c3 (.fn 12 [v]) H = some (.ret (.tuple #[.int .i64 (whereL f).1, .int .i64 (whereL f).2]), H) := by
  unfold c3; rw [callOf_miss (by decide), callOf_miss (by decide), callOf_miss (by decide)]
  refine callOf_hit rfl ?_
  simp [whereRC, Contract.plain, h, whereRL_eq]
theorem c3_check {H : Heap} {v : Value} {f : FunD} (h : rdFit H v = some f) : callOf c3 (.fn 14 [v]) H = some (.ret (.int .i64 (whereL f).2), H) := by
  unfold c3; rw [callOf_miss (by decide), callOf_miss (by decide), callOf_miss (by decide), callOf_miss (by decide)]; exact check_hit h
theorem c3_num {H : Heap} {n : Int} : callOf c3 (.fn 13 [.int .i64 n]) H = some (.ret (.int .i64 n), H) := by
  unfold c3; rw [callOf_miss (by decide), callOf_miss (by decide), callOf_miss (by decide), callOf_miss (by decide), callOf_miss (by decide)]; exact callOf_hit rfl rfl

theorem few_fits {f : FunD} (h : fewL f = true) : fits f := by
  unfold fewL at h
  simp only [Bool.and_eq_true, decide_eq_true_eq] at h
  obtain ⟨h1, h2⟩ := h
  have : ∀ (m : Nat) (l : List NodeD), l.length ≤ m → fewF m l = true → ∀ x ∈ l, x.l.length ≤ 40 := by
    intro m
    induction m with
    | zero => intro l hl _ x hx; cases l with | nil => cases hx | cons y l => simp at hl
    | succ m ih =>
      intro l hl hf x hx
      cases l with
      | nil => cases hx
      | cons y l =>
        simp only [fewF] at hf
        split at hf
        · cases hf
        · rcases List.mem_cons.1 hx with rfl | hx
          · omega
          · exact ih l (by simp at hl; omega) hf x hx
  intro x hx
  have := this 301 f.nodes (by omega) h1 x hx
  omega

theorem checks_run {H : Heap} {v : Value} {f : FunD} (hw : H.Wf) (hf : rdFun H v = some f) : ∃ H', evFn Try.prog (callOf c3) 0 3 [v] H = some (.ret (.bool true), H') := by
  obtain ⟨s, rfl, hs, _, _⟩ := rdFun_cells hf
  have hx := Ext.push hw (.cells true 2 [.int .i64 f.params, s])
  have ld : loadA Try.prog 24 (H.push (.cells true 2 [.int .i64 f.params, s])) H.next 0 = some (.agg #[.int .i64 f.params, s]) := by
    simp [loadA, get_push_self]
  have hf' := rdFun_ext hx hf
  have k1 := c3_few hf'
  refine ⟨H.push (.cells true 2 [.int .i64 f.params, s]), ?_⟩
  cases hfew : fewL f with
  | false =>
    rw [hfew] at k1
    simp [Try.f3, hs, ld, callA, k1, c3_works]
  | true =>
    rw [hfew] at k1
    have hfit := rdFit_of hf' (few_fits hfew)
    simp [Try.f3, hs, ld, callA, k1, c3_works, c3_where hfit, c3_whereR hfit, c3_check hfit, c3_num]
end Go.Proofs.Ytpopkajkekceiaa
