/-
  A part of a proof: texts laid behind one another (W42, W43, W44, W45, W46, W47, W48, W49).
-/
import Derived.Test.YtpopkajkekceiaaGW5
namespace Go.Proofs.Ytpopkajkekceiaa
open Go Go.Abs
set_option maxRecDepth 100000
set_option linter.unusedSimpArgs false
set_option linter.unusedVariables false

/-! ### Order, walked -/
def opOf (f : FunD) (i : Nat) : Int := match f.nodes[i]? with
  | some x => x.op
  | none => 0
def rowOf (f : FunD) (i : Nat) : List Value := [.int .i64 (i : Int), .int .i64 (opOf f i)]
def natsL (S : List Nat) : List Int := S.map fun (x : Nat) => (x : Int)

/-- What is to do. -/
def todoAt (H : Heap) (v : Value) (S : List Nat) : Prop := ∃ b c, v = .slice (some ⟨b, 0, none⟩) S.length c ∧ rdInts H .i64 v = some (natsL S)
/-- The rows made. -/
def rowsAt (f : FunD) (H : Heap) (v : Value) (out : List Nat) : Prop := (out = [] ∧ v = .slice none 0 0) ∨ ∃ b, v = .slice (some ⟨b, 0, none⟩) out.length BIG ∧ H.get b = some (.cells true 2 ((out.map (rowOf f)).flatten))

structure OInv (f : FunD) (H0 H : Heap) (v3 v4 : Value) (S out : List Nat) : Prop where
  wf0 : H0.Wf
  wf : H.Wf
  ext : Ext H0 H
  td : todoAt H v4 S
  rw : rowsAt f H v3 out
  ne : blockOf v4 ≠ blockOf v3
  new : ∀ b, blockOf v3 = some b → H0.next ≤ b

def pO : List Nat := [1, 1, 0, 1, 0, 1, 0, 0, 0]

theorem rdInts_congr {H H' : Heap} {k : IntKind} {b n c : Nat} (h : H'.get b = H.get b) : rdInts H' k (.slice (some ⟨b, 0, none⟩) n c) = rdInts H k (.slice (some ⟨b, 0, none⟩) n c) := by
  simp only [rdInts, rdS, h]

theorem o_head {call : CallF} {lf : Nat} {env : Env} {H : Heap} {b c n : Nat} (e4 : env.val 4 = .slice (some ⟨b, 0, none⟩) n c) (hn : 0 < n) :
    ∃ env', evCode Try.prog call lf 49 none (cAt Try.f21 (pO ++ [0])) env [] H = some (.normal, env', [], H) ∧ env'.val 1 = env.val 1 ∧ env'.val 3 = env.val 3 ∧ env'.val 4 = env.val 4 := by
  have c1 : (0 : Int) < (n : Int) := by omega
  generalize hr : evCode Try.prog call lf 49 none (cAt Try.f21 (pO ++ [0])) env [] H = out
  simp [pO, Try.f21, e4, Try.underlying38, c1, hn] at hr
  subst hr
  exact ⟨_, rfl, by simp [e4]⟩
theorem o_exit {call : CallF} {lf : Nat} {env : Env} {H : Heap} {b c : Nat} (e4 : env.val 4 = .slice (some ⟨b, 0, none⟩) 0 c) :
    ∃ env', evCode Try.prog call lf 49 none (cAt Try.f21 pO) env [] H = some (.exit 0, env', [], H) ∧ env'.val 1 = env.val 1 ∧ env'.val 3 = env.val 3 := by
  generalize hr : evCode Try.prog call lf 49 none (cAt Try.f21 pO) env [] H = out
  simp [pO, Try.f21, e4, Try.underlying38] at hr
  subst hr
  exact ⟨_, rfl, by simp [e4]⟩

theorem o_R5 {call : CallF} {lf : Nat} {env : Env} {H : Heap} {b c m a : Nat} {S : List Nat} (e4 : env.val 4 = .slice (some ⟨b, 0, none⟩) (m + 1) c) (hm : m < 1073741824) (hr4 : rdInts H .i64 (.slice (some ⟨b, 0, none⟩) (m + 1) c) = some (natsL (S ++ [a]))) (hS : S.length = m) :
    ∃ env', evCode Try.prog call lf 49 none (cAt Try.f21 (pO ++ [1, 0, 0])) env [] H = some (.normal, env', [], H) ∧ env'.val 1 = env.val 1 ∧ env'.val 3 = env.val 3 ∧ env'.val 4 = env.val 4 ∧ env'.val 5 = .int .i64 a := by
  have w1 : IntKind.i64.wrap (m : Int) = (m : Int) := wrapI (by omega) (by omega)
  have hx : (natsL (S ++ [a]))[m]? = some (a : Int) := by
    simp [natsL, List.getElem?_append_right, ← hS]
  obtain ⟨ix, lo⟩ := rdInts_at (n := m) (P := Try.prog) (t := 38) (e := 3) hr4 hx Try.underlying38 info3 rfl Try.underlying3 rfl
  simp only [blk, offs, Nat.zero_add] at ix lo
  generalize hr : evCode Try.prog call lf 49 none (cAt Try.f21 (pO ++ [1, 0, 0])) env [] H = out
  simp [pO, Try.f21, e4, Try.underlying38, w1, ix, lo] at hr
  subst hr
  exact ⟨_, rfl, by simp [e4]⟩

theorem slice38 {H : Heap} {b c m : Nat} (hm : m < 1073741824) (hc : m + 1 ≤ c) : sliceA Try.prog 38 (.slice (some ⟨b, 0, none⟩) (m + 1) c) none (some (m : Int)) (some (m : Int)) H = some (.slice (some ⟨b, 0, none⟩) m m) := by
  have hcap : m + 1 ≤ capA (m + 1) c := by unfold capA; split <;> omega
  simp only [sliceA, elem38]
  rw [if_pos ⟨rfl, by simp, by simp, by simp, by omega, by rw [BIG_val]; omega⟩]
  simp
theorem read38 {H : Heap} {b c m a : Nat} {S : List Nat} (h : rdInts H .i64 (.slice (some ⟨b, 0, none⟩) (m + 1) c) = some (natsL (S ++ [a]))) (hS : S.length = m) (hm : m < 1073741824) : m + 1 ≤ c ∧ rdInts H .i64 (.slice (some ⟨b, 0, none⟩) m m) = some (natsL S) := by
  have h1 := rdInts_rd h
  obtain ⟨b', off, c', own, es', cs, hv, hg, hc, hl, hxs⟩ := rdS_some h1 (i := 0) (by simp [natsL])
  simp only [Value.slice.injEq, Option.some.injEq, Addr.mk.injEq] at hv
  obtain ⟨⟨rfl, rfl, _⟩, hlen, rfl⟩ := hv
  rw [← hlen] at hxs hl hc
  have hc2 : m + 1 ≤ c := by
    unfold capA at hc
    split at hc
    · omega
    · rename_i hb; rw [BIG_val] at hb; omega
  refine ⟨hc2, rdInts_of ?_⟩
  simp only [rdS, hg]
  have hcapm : capA m m = m := by unfold capA; split <;> rfl
  rw [if_pos ⟨by rw [hcapm]; exact Nat.le_refl _, by omega⟩]
  congr 1
  have hd : ∀ (n : Nat) (l : List Value), chunks 1 n l = (chunks 1 (n + 1) l).take n := by
    intro n
    induction n with
    | zero => intro l; simp [chunks]
    | succ n ih => intro l; rw [chunks, chunks, List.take_succ_cons, ← ih]
  rw [hd, ← hxs]
  simp [natsL, ← hS]

theorem built72 {k k' : IntKind} {a b : Int} : Try.prog.built 72 [(0, .int k a), (1, .int k' b)] = some #[.int k a, .int k' b] := by kernel_rfl
theorem build70 {H : Heap} {k k' : IntKind} {a b : Int} : buildSliceA Try.prog 70 1 [(0, .agg #[.int k a, .int k' b])] H = some (.slice (some ⟨H.next, 0, none⟩) 1 1, H.push (.cells true 2 [.int k a, .int k' b])) := by kernel_rfl

/-- todo loses its last one, and gains others. -/
theorem app38 {H : Heap} {b m : Nat} {S ks : List Nat} {l : Value} (hw : H.Wf) (hv : rdInts H .i64 (.slice (some ⟨b, 0, none⟩) m m) = some (natsL S)) (hS : S.length = m) (hl : rdInts H .i64 l = some (natsL ks)) (hb : m + ks.length < 1073741824) :
    ∃ v' H', builtinA Try.prog .append #[38, 38] [.slice (some ⟨b, 0, none⟩) m m, l] H = some (.val v', H') ∧ Kept H H' none ∧ todoAt H' v' (S ++ ks) ∧ (blockOf v' = some b ∨ blockOf v' = some H.next) := by
  have hv1 := rdInts_rd hv
  have hl1 := rdInts_rd hl
  have hby : Try.t3.bytes ≤ 65536 := by decide
  have hs3 : Try.t3.size = 1 := by kernel_rfl
  have he : elemA Try.prog 38 = some (3, Try.t3) := by kernel_rfl
  rcases Nat.eq_zero_or_pos ks.length with h0 | h0
  · have hks : ks = [] := List.eq_nil_of_length_eq_zero h0
    subst hks
    refine ⟨_, H, app_none he zero3 hby (by rw [hs3]; omega) (by rw [hs3]; rfl) (by rw [hs3]; exact hv1) (by simp [natsL]; omega) (by rw [hs3]; exact hl1) (by simp [natsL]), Kept.refl hw _, ⟨b, m, by simp [hS], by simpa using hv⟩, .inl rfl⟩
  · have hfl : ∀ l : List Nat, (((natsL l).map fun n => [Value.int .i64 n]).flatten) = (natsL l).map fun n => Value.int .i64 n := by
      intro l; induction l with
      | nil => rfl
      | cons x l ih => simp only [natsL, List.map_cons, List.flatten_cons] at *; rw [ih]; rfl
    have hlen : ((natsL ks).map fun n => [Value.int .i64 n]).length = ks.length := by simp [natsL]
    have hone : (((natsL ks).map fun n => [Value.int .i64 n]).flatten).all oneC = true := by rw [hfl]; simp
    have happ := app_full (P := Try.prog) (H := H) (b := b) (n := m) (c := m) he zero3 hby (by rw [hs3]; omega) (by rw [hs3]; rfl) hw (by rw [hs3]; exact hv1) (by rw [BIG_val]; omega) (by rw [hlen]; omega) (by rw [hs3]; exact hl1) (by rw [hlen]; omega) hone (by rw [hlen]; omega)
    refine ⟨_, _, happ, (Kept.refl hw none).push _, ⟨H.next, BIG, by simp [natsL, hS], ?_⟩, .inr rfl⟩
    refine rdInts_of ?_
    simp only [rdS, get_push_self, hs3, hfl]
    have hcap : capA (m + ((natsL ks).map fun n => [Value.int .i64 n]).length) BIG = m + ((natsL ks).map fun n => [Value.int .i64 n]).length := by unfold capA; rw [if_neg (Nat.lt_irrefl _)]
    rw [if_pos ⟨by rw [hcap]; exact Nat.le_refl _, by simp [natsL, hS]⟩, List.drop_zero]
    congr 1
    have hch : ∀ l : List Value, chunks 1 l.length l = l.map fun x => [x] := by
      intro l; induction l with
      | nil => rfl
      | cons x l ih => simp only [List.length_cons, chunks, List.map_cons]; rw [show (x :: l).drop 1 = l from rfl, ih]; rfl
    have := hch (((natsL S).map fun n => Value.int .i64 n) ++ ((natsL ks).map fun n => Value.int .i64 n))
    rw [show m + ((natsL ks).map fun n => [Value.int .i64 n]).length = (((natsL S).map fun n => Value.int .i64 n) ++ ((natsL ks).map fun n => Value.int .i64 n)).length by simp [natsL, hS], this]
    simp [natsL]
    rfl
end Go.Proofs.Ytpopkajkekceiaa

namespace Go.Proofs.Ytpopkajkekceiaa
open Go Go.Abs
set_option maxRecDepth 100000
set_option linter.unusedSimpArgs false
set_option linter.unusedVariables false

theorem o_R6 {lf : Nat} {call : CallF} {env : Env} {H : Heap} {b b0 c m a : Nat} {S ks : List Nat} {p s l : Value} {xs : List (List Value)} {op nn : Int} (hw : H.Wf) (e1 : env.val 1 = .pointer (some ⟨b0, 0, none⟩)) (h0 : H.get b0 = some (.cells true 2 [p, s])) (hs : rdS H 3 s = some xs) (hx : xs[a]? = some [.int .i64 op, .int .i64 nn, l]) (hl : rdInts H .i64 l = some (natsL ks))
    (e4 : env.val 4 = .slice (some ⟨b, 0, none⟩) (m + 1) c) (e5 : env.val 5 = .int .i64 a) (hr4 : rdInts H .i64 (.slice (some ⟨b, 0, none⟩) (m + 1) c) = some (natsL (S ++ [a]))) (hS : S.length = m) (hb : m + ks.length < 1073741824) :
    ∃ env' v' H', evCode Try.prog call lf 49 none (cAt Try.f21 (pO ++ [1, 0, 1, 0])) env [] H = some (.normal, env', [], H') ∧ env'.val 1 = env.val 1 ∧ env'.val 3 = env.val 3 ∧ env'.val 4 = v' ∧ env'.val 5 = env.val 5 ∧ Kept H H' none ∧ todoAt H' v' (S ++ ks) ∧ (blockOf v' = some b ∨ blockOf v' = some H.next) := by
  have hlt := (List.getElem?_eq_some_iff.1 hx).1
  have w1 : IntKind.i64.wrap (m : Int) = (m : Int) := wrapI (by omega) (by omega)
  obtain ⟨hc, hr⟩ := read38 hr4 hS (by omega)
  have sl := slice38 (H := H) (b := b) (c := c) (m := m) (by omega) hc
  have ld1 : loadA Try.prog 22 H b0 1 = some s := by simp [loadA, h0]
  have ix := rdS_index hs Try.underlying22 info40 (by simp) (n := (a : Int)) (by omega) (by omega)
  simp only [Int.toNat_natCast] at ix
  have lo := rdS_load hs hx (k := 2) (u := l) rfl info38 Try.underlying38 (t := 38) rfl
  obtain ⟨v', H', ap, k1, k2, k3⟩ := app38 hw hr hS hl hb
  generalize hrr : evCode Try.prog call lf 49 none (cAt Try.f21 (pO ++ [1, 0, 1, 0])) env [] H = out
  simp [pO, Try.f21] at hrr
  rw [evDraw_tab (tab := [])] at hrr
  · simp [e1, e4, e5, Try.underlying38, w1, sl, ld1, ix, lo, ap] at hrr
    subst hrr
    exact ⟨_, v', H', rfl, by simp [e1], by simp, by simp, by simp [e5], k1, k2, k3⟩
  · kernel_rfl
  · kernel_rfl

theorem o_R7 {lf : Nat} {call : CallF} {env : Env} {H : Heap} {b0 a : Nat} {f : FunD} {out : List Nat} {v3 p s l : Value} {xs : List (List Value)} {op nn : Int} (hw : H.Wf) (e1 : env.val 1 = .pointer (some ⟨b0, 0, none⟩)) (h0 : H.get b0 = some (.cells true 2 [p, s])) (hs : rdS H 3 s = some xs) (hx : xs[a]? = some [.int .i64 op, .int .i64 nn, l]) (hop : opOf f a = op)
    (e3 : env.val 3 = v3) (e5 : env.val 5 = .int .i64 a) (hrw : rowsAt f H v3 out) (hb : out.length < 1073741823) :
    ∃ env' H', evCode Try.prog call lf 49 none (cAt Try.f21 (pO ++ [1, 0, 1, 1])) env [] H = some (.normal, env', [], H') ∧ env'.val 1 = env.val 1 ∧ env'.val 4 = env.val 4 ∧ ∃ v', env'.val 3 = v' ∧ rowsAt f H' v' (out ++ [a]) ∧ Kept H H' (blockOf v3) ∧ ∃ nb, blockOf v' = some nb ∧ H.next ≤ nb := by
  have hlt := (List.getElem?_eq_some_iff.1 hx).1
  have ld1 : loadA Try.prog 22 H b0 1 = some s := by simp [loadA, h0]
  have ix := rdS_index hs Try.underlying22 info40 (by simp) (n := (a : Int)) (by omega) (by omega)
  simp only [Int.toNat_natCast] at ix
  have lo := rdS_load0 hs hx (u := .int .i64 op) rfl (t := 37) info37 Try.underlying37 rfl
  have k1 := (Kept.refl hw none).push (.cells true 2 [.int .i64 (a : Int), .int .i64 op])
  have hfl : ((out.map (rowOf f)).flatten).length = out.length * 2 := by
    induction out with
    | nil => rfl
    | cons x l ih => simp only [List.map_cons, List.flatten_cons, List.length_append, List.length_cons]; rw [flatten_length (es := 2)]; simp [rowOf]; omega; intro y hy; obtain ⟨z, _, rfl⟩ := List.mem_map.1 hy; rfl
  have hv : (out.length = 0 ∧ v3 = .slice none 0 0 ∧ (out.map (rowOf f)).flatten = []) ∨ ∃ b, v3 = .slice (some ⟨b, 0, none⟩) out.length BIG ∧ (H.push (.cells true 2 [.int .i64 (a : Int), .int .i64 op])).get b = some (.cells true Try.t72.size ((out.map (rowOf f)).flatten)) := by
    rw [size72]
    rcases hrw with ⟨rfl, rfl⟩ | ⟨b, hb1, hb2⟩
    · exact .inl ⟨rfl, rfl, rfl⟩
    · exact .inr ⟨b, hb1, k1.of_get hw hb2 (by simp)⟩
  have hxr : rdS (H.push (.cells true 2 [.int .i64 (a : Int), .int .i64 op])) Try.t72.size (.slice (some ⟨H.next, 0, none⟩) 1 1) = some [rowOf f a] := by
    rw [size72]
    simp only [rdS, get_push_self]
    rw [if_pos ⟨by decide, by simp⟩]
    simp [chunks, rowOf, hop]
  obtain ⟨H', ap, g1, k2, _⟩ := app_big (P := Try.prog) (t := 70) elem70 zero72 (by decide) (by rw [size72]; omega) (by rw [size72]; rfl) k1.wf hv (by rw [size72]; exact hfl) hxr (by simp; omega) (by simp [rowOf]) (by simp)
  simp only [Heap.next_push, List.length_cons, List.length_nil, Nat.zero_add] at ap g1
  generalize hrr : evCode Try.prog call lf 49 none (cAt Try.f21 (pO ++ [1, 0, 1, 1])) env [] H = out'
  simp [pO, Try.f21, e1, e3, e5, ld1, ix, lo, built72, build70, ap] at hrr
  subst hrr
  refine ⟨_, H', rfl, by simp [e1], by simp, .slice (some ⟨H.next + 1, 0, none⟩) (out.length + 1) BIG, by simp, .inr ⟨H.next + 1, by simp, ?_⟩, (k1.weak _).trans k2, H.next + 1, rfl, by omega⟩
  rw [g1, size72]
  simp
end Go.Proofs.Ytpopkajkekceiaa

namespace Go.Proofs.Ytpopkajkekceiaa
open Go Go.Abs
set_option maxRecDepth 100000
set_option linter.unusedSimpArgs false
set_option linter.unusedVariables false

theorem todoAt.lt {H : Heap} {v : Value} {S : List Nat} (hw : H.Wf) (h : todoAt H v S) : ∃ b c, v = .slice (some ⟨b, 0, none⟩) S.length c ∧ rdInts H .i64 v = some (natsL S) ∧ b < H.next := by
  obtain ⟨b, c, rfl, hr⟩ := h
  refine ⟨b, c, rfl, hr, ?_⟩
  have h1 := rdInts_rd hr
  unfold rdS at h1
  simp only at h1
  split at h1
  · rename_i hg; exact hw.lt hg
  · cases h1

structure OInv2 (f : FunD) (H0 H : Heap) (v3 v4 : Value) (S out : List Nat) : Prop extends OInv f H0 H v3 v4 S out where
  le : H0.next ≤ H.next

theorem o_round {call : CallF} {lf : Nat} {env : Env} {f : FunD} {H0 H : Heap} {b0 a : Nat} {S out ks : List Nat} {v3 v4 p s l : Value} {xs : List (List Value)} {x : NodeD}
    (h0 : H0.get b0 = some (.cells true 2 [p, s])) (hs : rdS H0 3 s = some xs) (hx : xs[a]? = some [.int .i64 x.op, .int .i64 x.n, l]) (hop : opOf f a = x.op) (hl : rdInts H0 .i64 l = some (natsL ks))
    (hI : OInv2 f H0 H v3 v4 (S ++ [a]) out) (e1 : env.val 1 = .pointer (some ⟨b0, 0, none⟩)) (e3 : env.val 3 = v3) (e4 : env.val 4 = v4) (hb : S.length + ks.length < 1073741824) (hb2 : out.length < 1073741823) :
    ∃ env' H' v3' v4', evCode Try.prog call lf 49 none (cAt Try.f21 pO) env [] H = some (.normal, env', [], H') ∧ env'.val 1 = env.val 1 ∧ env'.val 3 = v3' ∧ env'.val 4 = v4' ∧ OInv2 f H0 H' v3' v4' (S ++ ks) (out ++ [a]) := by
  obtain ⟨b, c, hv4, hr4, hblt⟩ := hI.td.lt hI.wf
  rw [List.length_append, List.length_cons, List.length_nil, Nat.zero_add] at hv4
  rw [hv4] at hr4
  obtain ⟨a1, r1, f1, f3, f4⟩ := o_head (call := call) (lf := lf) (H := H) (e4.trans hv4) (by omega)
  obtain ⟨a2, r2, g1, g3, g4, g5⟩ := o_R5 (call := call) (lf := lf) (env := a1) (H := H) (S := S) (a := a) (f4.trans (e4.trans hv4)) (by omega) hr4 rfl
  have h0H := hI.ext _ _ h0
  obtain ⟨a3, v4', H4, r3, k1, k3, k4, k5, kp, td, hbl⟩ := o_R6 (call := call) (lf := lf) (env := a2) (H := H) (S := S) (a := a) (ks := ks) hI.wf (g1.trans (f1.trans e1)) h0H (rdS_ext hI.ext hs) hx (rdInts_ext hI.ext hl) (g4.trans (f4.trans (e4.trans hv4))) g5 hr4 rfl hb
  have hx4 : Ext H H4 := kp.ext hI.wf
  have x04 := hI.ext.trans hx4
  have hrw4 : rowsAt f H4 v3 out := by
    rcases hI.rw with h | ⟨b3, h1, h2⟩
    · exact .inl h
    · exact .inr ⟨b3, h1, hx4 _ _ h2⟩
  obtain ⟨a4, H5, r4, m1, m4, v3', m3, rw5, kq, nb, hnb, hnb2⟩ := o_R7 (call := call) (lf := lf) (env := a3) (H := H4) (f := f) (out := out) kp.wf (k1.trans (g1.trans (f1.trans e1))) (x04 _ _ h0) (rdS_ext x04 hs) hx hop (k3.trans (g3.trans (f3.trans e3))) (k5.trans g5) hrw4 hb2
  have hblk : evCode Try.prog call lf 49 none (cAt Try.f21 (pO ++ [1])) a1 [] H = some (.normal, a4, [], H5) := by
    rw [show cAt Try.f21 (pO ++ [1]) = .block 1 (cAt Try.f21 (pO ++ [1, 0])) from rfl, evCode_block, ev_then (c := cAt Try.f21 (pO ++ [1, 0])) (b := cAt Try.f21 (pO ++ [1, 0, 1])) rfl r2,
      ev_then (c := cAt Try.f21 (pO ++ [1, 0, 1])) (b := cAt Try.f21 (pO ++ [1, 0, 1, 1])) rfl r3, r4]
  obtain ⟨b4, c4, hv4', hr4', hb4⟩ := td.lt kp.wf
  have hne3 : blockOf v4' ≠ blockOf v3 := by
    rcases hbl with h | h
    · rw [h]
      have := hI.ne
      rw [hv4] at this
      exact this
    · rw [h]
      intro e
      rcases hI.rw with ⟨_, h2⟩ | ⟨b3, h1, h2⟩
      · rw [h2] at e; cases e
      · rw [h1] at e
        simp only [blockOf, Option.some.injEq] at e
        have := hI.wf.lt h2
        omega
  refine ⟨a4, H5, v3', v4', by rw [ev_then (c := cAt Try.f21 pO) (b := cAt Try.f21 (pO ++ [1])) rfl r1, hblk], m1.trans (k1.trans (g1.trans f1)), m3, m4.trans k4, ⟨⟨hI.wf0, kq.wf, ?_, ?_, rw5, ?_, ?_⟩, by have := hI.le; have := kp.le; have := kq.le; omega⟩⟩
  · intro b ob hb
    refine kq.of_get kp.wf (x04 b ob hb) ?_
    intro e
    have := hI.new b e.symm
    have := hI.wf0.lt hb
    omega
  · refine ⟨b4, c4, hv4', ?_⟩
    rw [hv4'] at hr4' ⊢
    rw [rdInts_congr (kq.get b4 hb4 ?_)]
    · exact hr4'
    · rw [hv4'] at hne3; exact hne3
  · rw [hnb, hv4']
    simp only [blockOf, ne_eq, Option.some.injEq]
    omega
  · intro b hb
    rw [hnb] at hb
    cases hb
    have := hI.le; have := kp.le; omega

/-- The loop of Order. -/
theorem o_loop {call : CallF} {lf : Nat} {f : FunD} {H0 : Heap} {b0 : Nat} {p s : Value} {xs : List (List Value)} {ps : List Pl} (hps : lookedL f = .ok ps) (h0 : H0.get b0 = some (.cells true 2 [p, s])) (hs : rdS H0 3 s = some xs)
    (hx : ∀ (i : Nat) x, f.nodes[i]? = some x → ∃ s', xs[i]? = some [.int .i64 x.op, .int .i64 x.n, s'] ∧ rdInts H0 .i64 s' = some x.l) : ∀ (d m : Nat) (env : Env) (H : Heap) (v3 v4 : Value) (S out : List Nat), f.nodes.length = out.length + d → d < m →
    DI (kidsOf f) f.nodes.length S out → OInv2 f H0 H v3 v4 S out → env.val 1 = .pointer (some ⟨b0, 0, none⟩) → env.val 3 = v3 → env.val 4 = v4 →
    ∃ env' H' v3' out', evLoop Try.prog call lf 49 none (cAt Try.f21 pO) m env [] H = some (.exit 0, env', [], H') ∧ env'.val 1 = env.val 1 ∧ env'.val 3 = v3' ∧ DI (kidsOf f) f.nodes.length [] out' ∧ H'.Wf ∧ Ext H0 H' ∧ rowsAt f H' v3' out' ∧ (∀ b, blockOf v3' = some b → H0.next ≤ b) ∧ H0.next ≤ H'.next ∧ (∀ X : List Nat → List Nat → Prop, (∀ S a out, X (S ++ [a]) out → X (S ++ kidsOf f a) (out ++ [a])) → X S out → X [] out')
  | d, 0, env, H, v3, v4, S, out, _, hm, _, _, _, _, _ => by omega
  | d, m + 1, env, H, v3, v4, S, out, hd, hm, hD, hI, e1, e3, e4 => by
    rcases List.eq_nil_or_concat S with rfl | ⟨S0, a, rfl⟩
    · obtain ⟨b, c, hv4, _⟩ := hI.td
      obtain ⟨env', he, k1, k3⟩ := o_exit (call := call) (lf := lf) (H := H) (e4.trans hv4)
      simp only [evLoop_succ, he]
      exact ⟨env', H, v3, out, rfl, k1, k3.trans e3, hD, hI.wf, hI.ext, hI.rw, hI.new, hI.le, fun X _ h => h⟩
    · rw [List.concat_eq_append] at hD hI
      have hT := tree_of hps
      obtain ⟨tI, _, hn200, _, _⟩ := ti_looked hps
      have han := hD.lt a (by simp)
      obtain ⟨x, hxa⟩ : ∃ x, f.nodes[a]? = some x := ⟨_, List.getElem?_eq_getElem han⟩
      obtain ⟨l, hxl, hl⟩ := hx a x hxa
      have hks : x.l = natsL (kidsOf f a) := by
        unfold kidsOf natsL
        rw [hxa]
        simp only [List.map_map]
        have : x.l.map ((fun (n : Nat) => (n : Int)) ∘ Int.toNat) = x.l.map id := by
          refine List.map_congr_left fun c hc => ?_
          obtain ⟨k, hk, rfl⟩ := List.mem_iff_getElem.1 hc
          obtain ⟨j, _, e1, _⟩ := tI.kid a x hxa k _ (List.getElem?_eq_getElem hk) (.inl han)
          simp only [Function.comp, id]
          omega
        rw [this, List.map_id]
      rw [hks] at hl
      have hop : opOf f a = x.op := by unfold opOf; rw [hxa]
      have hD' := di_step hT hD
      have hroom := di_room hD
      have hroom' := di_room hD'
      simp only [List.length_append, List.length_cons, List.length_nil] at hroom hroom'
      obtain ⟨env', H', v3', v4', he, k1, k3, k4, hI'⟩ := o_round (call := call) (lf := lf) h0 hs hxl hop hl hI e1 e3 e4 (by omega) (by omega)
      simp only [evLoop_succ, he]
      obtain ⟨e2, H2, w3, out', r2, l1, l3, q1, q2, q3, q4, q5, q6, q7⟩ := o_loop hps h0 hs hx (d - 1) m env' H' v3' v4' (S0 ++ kidsOf f a) (out ++ [a]) (by simp; omega) (by omega) hD' hI' (k1.trans e1) k3 k4
      exact ⟨e2, H2, w3, out', r2, l1.trans k1, l3, q1, q2, q3, q4, q5, q6, fun X hX h => q7 X hX (hX _ _ _ (by rw [← List.concat_eq_append]; exact h))⟩
end Go.Proofs.Ytpopkajkekceiaa

namespace Go.Proofs.Ytpopkajkekceiaa
open Go Go.Abs
set_option maxRecDepth 100000
set_option linter.unusedSimpArgs false
set_option linter.unusedVariables false

/-! ### Reverse -/
theorem flatten_put {es : Nat} : ∀ (xs : List (List Value)) (p : Nat) (y : List Value), (∀ x ∈ xs, x.length = es) → y.length = es → p < xs.length → putL xs.flatten (p * es) y = (xs.set p y).flatten
  | [], p, y, _, _, h => by simp at h
  | x :: xs, 0, y, hx, hy, _ => by
    have := hx x (by simp)
    simp only [putL, Nat.zero_mul, List.take_zero, List.nil_append, Nat.zero_add, List.flatten_cons, List.set_cons_zero, hy]
    rw [List.drop_append_of_le_length (by omega), List.drop_eq_nil_of_le (by omega), List.nil_append]
  | x :: xs, p + 1, y, hx, hy, h => by
    have hl := hx x (by simp)
    have ih := flatten_put xs p y (fun z hz => hx z (by simp [hz])) hy (by simp at h; omega)
    simp only [List.set_cons_succ, List.flatten_cons]
    rw [← ih]
    simp only [putL, Nat.succ_mul]
    rw [List.take_append, List.take_of_length_le (by omega), show p * es + es - x.length = p * es by omega, List.drop_append, List.drop_eq_nil_of_le (by omega), List.nil_append, show p * es + es + y.length - x.length = p * es + y.length by omega]
    simp

structure RevInv (L : List (List Value)) (b i : Nat) (H0 H : Heap) : Prop where
  kept : Kept H0 H (some b)
  lt : b < H0.next
  xs : ∃ xs : List (List Value), H.get b = some (.cells true 2 xs.flatten) ∧ xs.length = L.length ∧ (∀ x ∈ xs, ∃ u w : Int, x = [.int .i64 u, .int .i64 w]) ∧ ∀ p, p < L.length → xs[p]? = if p < i ∨ L.length ≤ p + i then L[L.length - 1 - p]? else L[p]?

def pV : List Nat := [1, 0, 0]
theorem rd_of_cells {H : Heap} {b es : Nat} {xs : List (List Value)} (h : H.get b = some (.cells true es xs.flatten)) (hx : ∀ x ∈ xs, x.length = es) : rdS H es (.slice (some ⟨b, 0, none⟩) xs.length BIG) = some xs := by
  have hcap : capA xs.length BIG = xs.length := by unfold capA; rw [if_neg (Nat.lt_irrefl _)]
  simp only [rdS, h]
  rw [if_pos ⟨by rw [hcap]; exact Nat.le_refl _, by rw [flatten_length xs hx]; omega⟩, List.drop_zero, Go.Abs.chunks_flatten xs hx]

theorem v_round {call : CallF} {lf : Nat} {env : Env} {L : List (List Value)} {H0 H : Heap} {b i : Nat} (hI : RevInv L b i H0 H) (hi : i + 1 + i < L.length) (hn : L.length < 1099511627776) (e0 : env.val 0 = .slice (some ⟨b, 0, none⟩) L.length BIG) (e2 : env.val 2 = .int .i64 i) (e3 : env.val 3 = .int .i64 ((L.length - 1 - i : Nat) : Int)) :
    ∃ env' H', evCode Try.prog call lf 28 none (cAt Try.f33 pV) env [] H = some (.normal, env', [], H') ∧ env'.val 0 = env.val 0 ∧ env'.val 2 = .int .i64 ((i + 1 : Nat) : Int) ∧ env'.val 3 = .int .i64 ((L.length - 1 - (i + 1) : Nat) : Int) ∧ RevInv L b (i + 1) H0 H' := by
  obtain ⟨xs, hb, hl, hx, hp⟩ := hI.xs
  have hx2 : ∀ x ∈ xs, x.length = 2 := fun x h => by obtain ⟨u, w, rfl⟩ := hx x h; rfl
  have hrd := rd_of_cells hb hx2
  rw [hl] at hrd
  obtain ⟨x, hxi⟩ : ∃ x, xs[i]? = some x := ⟨_, List.getElem?_eq_getElem (by omega)⟩
  obtain ⟨y, hyj⟩ : ∃ y, xs[L.length - 1 - i]? = some y := ⟨_, List.getElem?_eq_getElem (by omega)⟩
  obtain ⟨xu, xw, rfl⟩ := hx x (List.mem_of_getElem? hxi)
  obtain ⟨yu, yw, rfl⟩ := hx y (List.mem_of_getElem? hyj)
  have ixi := rdS_index hrd Try.underlying70 info72 size72 (n := (i : Int)) (by omega) (by omega)
  have ixj := rdS_index hrd Try.underlying70 info72 size72 (n := ((L.length - 1 - i : Nat) : Int)) (by omega) (by omega)
  simp only [Int.toNat_natCast, blk, offs, Nat.zero_add] at ixi ixj
  have li := rdS_loadA hrd hxi (t := 72) info72 size72 Try.underlying72 rfl
  have lj := rdS_loadA hrd hyj (t := 72) info72 size72 Try.underlying72 rfl
  simp only [blk, offs, Nat.zero_add] at li lj
  have hput1 := flatten_put xs i [.int .i64 yu, .int .i64 yw] hx2 rfl (by omega)
  have st1 : storeA Try.prog 72 H b (i * 2) (.agg #[.int .i64 yu, .int .i64 yw]) = some (H.set b (.cells true 2 (xs.set i [.int .i64 yu, .int .i64 yw]).flatten)) := by
    simp only [storeA, hb, info72, size72, cells_agg]
    rw [if_pos ⟨rfl, by rw [flatten_length xs hx2]; omega, rfl⟩]
    simp only [hput1]
  have hx3 : ∀ z ∈ xs.set i [.int .i64 yu, .int .i64 yw], z.length = 2 := fun z hz => by
    rcases List.mem_or_eq_of_mem_set hz with hz | rfl
    · exact hx2 z hz
    · rfl
  have hput2 := flatten_put (xs.set i [.int .i64 yu, .int .i64 yw]) (L.length - 1 - i) [.int .i64 xu, .int .i64 xw] hx3 rfl (by simp; omega)
  have st2 : storeA Try.prog 72 (H.set b (.cells true 2 (xs.set i [.int .i64 yu, .int .i64 yw]).flatten)) b ((L.length - 1 - i) * 2) (.agg #[.int .i64 xu, .int .i64 xw]) = some ((H.set b (.cells true 2 (xs.set i [.int .i64 yu, .int .i64 yw]).flatten)).set b (.cells true 2 ((xs.set i [.int .i64 yu, .int .i64 yw]).set (L.length - 1 - i) [.int .i64 xu, .int .i64 xw]).flatten)) := by
    simp only [storeA, get_set_self, info72, size72, cells_agg]
    rw [if_pos ⟨rfl, by rw [flatten_length _ hx3]; simp; omega, rfl⟩]
    simp only [hput2]
  have w1 : IntKind.i64.wrap ((i : Int) + 1) = (i : Int) + 1 := wrapI (by omega) (by omega)
  have w2 : IntKind.i64.wrap (((L.length - 1 - i : Nat) : Int) - 1) = ((L.length - 1 - i : Nat) : Int) - 1 := wrapI (by omega) (by omega)
  have c1 : (i : Int) < ((L.length - 1 - i : Nat) : Int) := by omega
  have hj : ((L.length - 1 - i : Nat) : Int) - 1 = ((L.length - 1 - (i + 1) : Nat) : Int) := by omega
  have hdone : RevInv L b (i + 1) H0 ((H.set b (.cells true 2 (xs.set i [.int .i64 yu, .int .i64 yw]).flatten)).set b (.cells true 2 ((xs.set i [.int .i64 yu, .int .i64 yw]).set (L.length - 1 - i) [.int .i64 xu, .int .i64 xw]).flatten)) := by
    have hbl : b < H.next := Nat.lt_of_lt_of_le hI.lt hI.kept.le
    refine ⟨(hI.kept.kill hbl _).kill hbl _, hI.lt, _, get_set_self _ _ _, by simp [hl], ?_, ?_⟩
    · intro z hz
      rcases List.mem_or_eq_of_mem_set hz with hz | rfl
      · rcases List.mem_or_eq_of_mem_set hz with hz | rfl
        · exact hx z hz
        · exact ⟨yu, yw, rfl⟩
      · exact ⟨xu, xw, rfl⟩
    · intro p hpl
      have hpi := hp i (by omega)
      have hpj := hp (L.length - 1 - i) (by omega)
      rw [if_neg (by omega)] at hpi hpj
      by_cases p1 : p = L.length - 1 - i
      · subst p1
        rw [List.getElem?_set_self (by simp; omega), if_pos (by omega), show L.length - 1 - (L.length - 1 - i) = i by omega, ← hpi, hxi]
      · rw [List.getElem?_set_ne (by omega)]
        by_cases p2 : p = i
        · subst p2
          rw [List.getElem?_set_self (by omega), if_pos (by omega), ← hpj, hyj]
        · rw [List.getElem?_set_ne (by omega), hp p hpl]
          by_cases p3 : p < i ∨ L.length ≤ p + i
          · rw [if_pos p3, if_pos (by omega)]
          · rw [if_neg p3, if_neg (by omega)]
  generalize hjj : L.length - 1 - i = j at *
  have c1' : i < j := by omega
  generalize hr : evCode Try.prog call lf 28 none (cAt Try.f33 pV) env [] H = out
  simp [pV, Try.f33, e2, e3, c1, c1'] at hr
  rw [evDraw_tab (tab := [])] at hr
  · simp [e0, e2, e3, ixi, ixj, li, lj, st1, st2, w1, w2] at hr
    subst hr
    exact ⟨_, _, rfl, by simp [e0], by simp, by simp [hj], hdone⟩
  · kernel_rfl
  · kernel_rfl

theorem v_exit {call : CallF} {lf : Nat} {env : Env} {H : Heap} {i : Nat} {j : Int} (hi : ¬ (i : Int) < j) (e2 : env.val 2 = .int .i64 i) (e3 : env.val 3 = .int .i64 j) :
    ∃ env', evCode Try.prog call lf 28 none (cAt Try.f33 pV) env [] H = some (.exit 0, env', [], H) := by
  generalize hr : evCode Try.prog call lf 28 none (cAt Try.f33 pV) env [] H = out
  simp [pV, Try.f33, e2, e3, hi] at hr
  subst hr
  exact ⟨_, rfl⟩

theorem v_loop {call : CallF} {lf : Nat} {L : List (List Value)} {H0 : Heap} {b : Nat} (hn : L.length < 1099511627776) : ∀ (m i : Nat) (env : Env) (H : Heap), L.length < m + i → i ≤ L.length → RevInv L b i H0 H → env.val 0 = .slice (some ⟨b, 0, none⟩) L.length BIG → env.val 2 = .int .i64 i → env.val 3 = .int .i64 ((L.length - 1 - i : Nat) : Int) →
    ∃ env' H' i', evLoop Try.prog call lf 28 none (cAt Try.f33 pV) m env [] H = some (.exit 0, env', [], H') ∧ L.length ≤ i' + 1 + i' ∧ i' ≤ L.length ∧ RevInv L b i' H0 H'
  | 0, i, env, H, hm, hi, _, _, _, _ => by omega
  | m + 1, i, env, H, hm, hi, hI, e0, e2, e3 => by
    by_cases hgo : i + 1 + i < L.length
    · obtain ⟨env', H', he, k0, k2, k3, hI'⟩ := v_round (call := call) (lf := lf) hI hgo hn e0 e2 e3
      simp only [evLoop_succ, he]
      exact v_loop hn m (i + 1) env' H' (by omega) (by omega) hI' (k0.trans e0) k2 k3
    · obtain ⟨env', he⟩ := v_exit (call := call) (lf := lf) (H := H) (i := i) (by omega) e2 e3
      simp only [evLoop_succ, he]
      exact ⟨env', H, i, rfl, by omega, hi, hI⟩

theorem rev_done {L : List (List Value)} {b i : Nat} {H0 H : Heap} (h : RevInv L b i H0 H) (hi : L.length ≤ i + 1 + i) : H.get b = some (.cells true 2 L.reverse.flatten) := by
  obtain ⟨xs, hb, hl, hx, hp⟩ := h.xs
  have : xs = L.reverse := by
    apply List.ext_getElem?
    intro p
    by_cases hpl : p < L.length
    · rw [hp p hpl, List.getElem?_reverse hpl]
      by_cases h1 : p < i ∨ L.length ≤ p + i
      · rw [if_pos h1]
      · rw [if_neg h1]
        congr 1
        omega
    · rw [List.getElem?_eq_none (by omega), List.getElem?_eq_none (by simp; omega)]
  rw [hb, this]

theorem reverse_run {call : CallF} {lf : Nat} {L : List (List Value)} {H : Heap} {b : Nat} (hw : H.Wf) (hn : 0 < L.length) (hn2 : L.length < 1099511627776) (hlf : L.length < lf) (hb : H.get b = some (.cells true 2 L.flatten)) (hx : ∀ x ∈ L, ∃ u w : Int, x = [.int .i64 u, .int .i64 w]) :
    ∃ H', evFn Try.prog call lf 33 [.slice (some ⟨b, 0, none⟩) L.length BIG] H = some (.ret (.tuple #[]), H') ∧ Kept H H' (some b) ∧ H'.get b = some (.cells true 2 L.reverse.flatten) := by
  have w1 : IntKind.i64.wrap ((L.length : Int) - 1) = (L.length : Int) - 1 := wrapI (by omega) (by omega)
  have hI : RevInv L b 0 H H := ⟨Kept.refl hw _, hw.lt hb, L, hb, rfl, hx, fun p hp => by rw [if_neg (by omega)]⟩
  have r0 : ∃ e, evCode Try.prog call lf 28 none (cAt Try.f33 [0]) (envOf 0 [.slice (some ⟨b, 0, none⟩) L.length BIG] .nil) [] H = some (.normal, e, [], H) ∧ e.val 0 = .slice (some ⟨b, 0, none⟩) L.length BIG ∧ e.val 2 = .int .i64 ((0 : Nat) : Int) ∧ e.val 3 = .int .i64 ((L.length : Int) - 1) := by
    generalize hr : evCode Try.prog call lf 28 none (cAt Try.f33 [0]) (envOf 0 [.slice (some ⟨b, 0, none⟩) L.length BIG] .nil) [] H = out
    simp [Try.f33, Try.underlying70, w1] at hr
    subst hr
    exact ⟨_, rfl, by simp⟩
  obtain ⟨e, r0, v0, v2, v3⟩ := r0
  obtain ⟨e', H', i', r1, h1, h2, hI'⟩ := v_loop (call := call) (lf := lf) hn2 lf 0 e H (by omega) (by omega) hI v0 v2 (by rw [v3]; congr 1; omega)
  refine ⟨H', ?_, hI'.kept, rev_done hI' h1⟩
  have hblk : evCode Try.prog call lf 28 none (cAt Try.f33 [1]) e [] H = some (.normal, e', [], H') := by
    rw [show cAt Try.f33 [1] = .block 0 (.loop (cAt Try.f33 pV)) from rfl, evCode_block, evCode_loop, r1]
    simp
  rw [evFn_at Try.func33 body33 (by simp), Try.ntmps33, ev_then (c := cAt Try.f33 []) (b := cAt Try.f33 [1]) rfl r0, hblk]
  simp [fnEnd, Try.f33]
end Go.Proofs.Ytpopkajkekceiaa

namespace Go.Proofs.Ytpopkajkekceiaa
open Go Go.Abs
set_option maxRecDepth 100000
set_option linter.unusedSimpArgs false
set_option linter.unusedVariables false

noncomputable def cI : List (Contract Try.prog) := [checkC]
noncomputable def callI (lf : Nat) : CallF := orC (callOf cI) (ev1 Try.prog (fun _ _ => none) lf)
theorem callI_ok (lf : Nat) : CallOk Try.prog (callI lf) := orC_ok (callOf_ok _) (ev1_sound noCall_ok)
theorem callI_fn {lf : Nat} {f : FuncId} {args : List Value} {H : Heap} (h1 : f ≠ 14) : callI lf (.fn f args) H = evFn Try.prog (fun _ _ => none) lf f args H := by
  unfold callI
  rw [orC_miss (by unfold cI; rw [callOf_miss h1]; rfl)]
  rfl
theorem callI_check {lf : Nat} {H : Heap} {v : Value} {f : FunD} (h : rdFit H v = some f) : callI lf (.fn 14 [v]) H = some (.ret (.int .i64 (whereL f).2), H) := orC_hit (check_hit h)

theorem told_run {call : CallF} {lf : Nat} {H : Heap} {x : Option Addr} {n c : Nat} : evFn Try.prog call lf 34 [.slice x n c] H = some (.ret (.func (.func 52) #[] #[.pointer (some ⟨H.next, 0, none⟩)]), H.push (.cells true 1 [.slice x n c])) := by
  simp [Try.f34]

theorem ord_R02 {lf : Nat} {H : Heap} {p : Int} {s : Value} {f : FunD} (hs1 : oneC s = true) (hw : H.Wf) (hf : rdFit H (.agg #[.int .i64 p, s]) = some f) :
    ∃ env', (∀ b, evCode Try.prog (callI lf) lf 49 none (cAt Try.f21 [1, 1]) env' [] (H.push (.cells true 2 [.int .i64 p, s])) = b → evCode Try.prog (callI lf) lf 49 none (cAt Try.f21 []) (envOf 0 [.agg #[.int .i64 p, s]] .nil) [] H = b) ∧
      env'.val 1 = .pointer (some ⟨H.next, 0, none⟩) ∧ env'.val 3 = .slice none 0 0 := by
  have r0 : ∃ e, evCode Try.prog (callI lf) lf 49 none (cAt Try.f21 [0]) (envOf 0 [.agg #[.int .i64 p, s]] .nil) [] H = some (.normal, e, [], H.push (.cells true 2 [.int .i64 p, s])) ∧ e.val 1 = .pointer (some ⟨H.next, 0, none⟩) := by
    generalize hr : evCode Try.prog (callI lf) lf 49 none (cAt Try.f21 [0]) (envOf 0 [.agg #[.int .i64 p, s]] .nil) [] H = out
    simp [Try.f21, hs1] at hr
    subst hr
    exact ⟨_, rfl, by simp⟩
  obtain ⟨e, r0, v1⟩ := r0
  have r1 : ∃ e', evCode Try.prog (callI lf) lf 49 none (cAt Try.f21 [1, 0]) e [] (H.push (.cells true 2 [.int .i64 p, s])) = some (.normal, e', [], H.push (.cells true 2 [.int .i64 p, s])) ∧ e'.val 1 = e.val 1 ∧ e'.val 3 = .slice none 0 0 := by
    generalize hr : evCode Try.prog (callI lf) lf 49 none (cAt Try.f21 [1, 0]) e [] (H.push (.cells true 2 [.int .i64 p, s])) = out
    simp [Try.f21] at hr
    subst hr
    exact ⟨_, rfl, by simp⟩
  obtain ⟨e', r1, w1, w3⟩ := r1
  refine ⟨e', fun b h => ?_, w1.trans v1, w3⟩
  rw [ev_then (c := cAt Try.f21 []) (b := cAt Try.f21 [1]) rfl r0, ev_then (c := cAt Try.f21 [1]) (b := cAt Try.f21 [1, 1]) rfl r1, h]

theorem ord_R2 {lf : Nat} {env : Env} {H : Heap} {b0 : Nat} {p : Int} {s : Value} {f : FunD} (h0 : H.get b0 = some (.cells true 2 [.int .i64 p, s])) (hf : rdFit H (.agg #[.int .i64 p, s]) = some f) (e1 : env.val 1 = .pointer (some ⟨b0, 0, none⟩)) :
    ∃ env', evCode Try.prog (callI lf) lf 49 none (cAt Try.f21 [1, 1, 0, 0]) env [] H = some (.normal, env', [], H) ∧ env'.val 1 = env.val 1 ∧ env'.val 3 = env.val 3 ∧ env'.val 8 = .bool ((whereL f).2 == 0) := by
  have ld : loadA Try.prog 24 H b0 0 = some (.agg #[.int .i64 p, s]) := by simp [loadA, h0]
  have hc := callI_check (lf := lf) hf
  generalize callI lf = call at hc
  generalize hr : evCode Try.prog call lf 49 none (cAt Try.f21 [1, 1, 0, 0]) env [] H = out
  simp [Try.f21, e1, ld, callA, hc] at hr
  subst hr
  exact ⟨_, rfl, by simp [e1]⟩

theorem ord_R3 {call : CallF} {lf : Nat} {env : Env} {H : Heap} :
    ∃ env', evCode Try.prog call lf 49 none (cAt Try.f21 [1, 1, 0, 1, 0, 0]) env [] H = some (.normal, env', [], H.push (.cells true 1 [.int .i64 0])) ∧ env'.val 1 = env.val 1 ∧ env'.val 3 = env.val 3 ∧ env'.val 4 = .slice (some ⟨H.next, 0, none⟩) 1 1 := by
  have hb : buildSliceA Try.prog 38 1 [(0, .int .i64 0)] H = some (.slice (some ⟨H.next, 0, none⟩) 1 1, H.push (.cells true 1 [.int .i64 0])) := by kernel_rfl
  generalize hr : evCode Try.prog call lf 49 none (cAt Try.f21 [1, 1, 0, 1, 0, 0]) env [] H = out
  simp [Try.f21, hb] at hr
  subst hr
  exact ⟨_, rfl, by simp⟩

theorem ord_R8 {lf : Nat} {env : Env} {H H' : Heap} {v3 : Value} (e3 : env.val 3 = v3) (hc : callI lf (.fn 33 [v3]) H = some (.ret (.tuple #[]), H')) :
    ∃ env', evCode Try.prog (callI lf) lf 49 none (cAt Try.f21 [1, 1, 0, 1, 0, 1, 1]) env [] H = some (.normal, env', [], H') ∧ env'.val 3 = env.val 3 := by
  generalize callI lf = call at hc
  generalize hr : evCode Try.prog call lf 49 none (cAt Try.f21 [1, 1, 0, 1, 0, 1, 1]) env [] H = out
  simp [Try.f21, e3, callA, hc] at hr
  subst hr
  exact ⟨_, rfl, by simp [e3]⟩

theorem ord_R9 {lf : Nat} {env : Env} {H : Heap} {x : Option Addr} {n c : Nat} (e3 : env.val 3 = .slice x n c) :
    ∃ env', evCode Try.prog (callI lf) lf 49 none (cAt Try.f21 [1, 1, 1]) env [] H = some (.ret, env', [], H.push (.cells true 1 [.slice x n c])) ∧ env'.val 2 = .func (.func 52) #[] #[.pointer (some ⟨H.next, 0, none⟩)] := by
  have hc : callI lf (.fn 34 [.slice x n c]) H = _ := (callI_fn (by decide)).trans told_run
  generalize callI lf = call at hc
  generalize hr : evCode Try.prog call lf 49 none (cAt Try.f21 [1, 1, 1]) env [] H = out
  simp [Try.f21, e3, callA, hc] at hr
  subst hr
  exact ⟨_, rfl, by simp⟩

/-- Order. -/
theorem order_run {lf : Nat} {H : Heap} {v : Value} {f : FunD} (hw : H.Wf) (hf : rdFit H v = some f) (hlf : 300 ≤ lf) :
    (∀ ps, lookedL f = .ok ps → ∃ out bt br H', evFn Try.prog (callI lf) lf 21 [v] H = some (.ret (.func (.func 52) #[] #[.pointer (some ⟨bt, 0, none⟩)]), H') ∧ Ext H H' ∧ H'.Wf ∧ H.next ≤ H'.next ∧ DI (kidsOf f) f.nodes.length [] out ∧ H.next ≤ bt ∧ H.next ≤ br ∧
      H'.get bt = some (.cells true 1 [.slice (some ⟨br, 0, none⟩) f.nodes.length BIG]) ∧ H'.get br = some (.cells true 2 (out.map (rowOf f)).reverse.flatten) ∧ (∀ X : List Nat → List Nat → Prop, (∀ S a out, X (S ++ [a]) out → X (S ++ kidsOf f a) (out ++ [a])) → X [0] [] → X [] out)) ∧
    (∀ i, lookedL f = .error i → ∃ bt H', evFn Try.prog (callI lf) lf 21 [v] H = some (.ret (.func (.func 52) #[] #[.pointer (some ⟨bt, 0, none⟩)]), H') ∧ Ext H H' ∧ H'.Wf ∧ H.next ≤ H'.next ∧ H.next ≤ bt ∧ H'.get bt = some (.cells true 1 [.slice none 0 0])) := by
  obtain ⟨h1, h2⟩ := rdFit_inv hf
  obtain ⟨s, xs, rfl, _, hs, hlen, hx⟩ := rdFun_inv h1
  obtain ⟨_, hs1, _, _⟩ := rdS_one hs
  obtain ⟨e0, q0, v1, v3⟩ := ord_R02 (lf := lf) hs1 hw hf
  have k1 := (Kept.refl hw none).push (.cells true 2 [.int .i64 f.params, s])
  have x1 := k1.ext hw
  have g0 := get_push_self H (.cells true 2 [.int .i64 f.params, s])
  have hfn : ∀ out, evCode Try.prog (callI lf) lf 49 none (cAt Try.f21 []) (envOf 0 [.agg #[.int .i64 f.params, s]] .nil) [] H = out → evFn Try.prog (callI lf) lf 21 [.agg #[.int .i64 f.params, s]] H = fnEnd Try.prog (callI lf) lf Try.f21 out := by
    intro out h
    rw [evFn_at Try.func21 body21 (by simp), Try.ntmps21, h]
  have hend : ∀ {env : Env} {H' : Heap} {r : Value}, env.val 2 = r → fnEnd Try.prog (callI lf) lf Try.f21 (some (.ret, env, [], H')) = some (.ret r, H') := by
    intro env H' r h
    simp [fnEnd, Try.f21, h]
  have hnx : H.next < (H.push (.cells true 2 [.int .i64 f.params, s])).next := by simp
  generalize hH1 : H.push (.cells true 2 [.int .i64 f.params, s]) = H1 at *
  obtain ⟨e1, r1, w1, w3, w8⟩ := ord_R2 (lf := lf) g0 (rdFit_ext x1 hf) v1
  constructor
  · intro ps hps
    obtain ⟨_, hn0, hn200, _, _⟩ := ti_looked hps
    have h8 : (whereL f).2 = 0 := by simp only [whereL, hps]
    rw [h8] at w8
    obtain ⟨e2, r2, y1, y3, y4⟩ := ord_R3 (call := callI lf) (lf := lf) (env := e1) (H := H1)
    have k2 := k1.push (.cells true 1 [.int .i64 0])
    have gt := get_push_self H1 (.cells true 1 [.int .i64 0])
    have g02 : (H1.push (.cells true 1 [.int .i64 0])).get H.next = some (.cells true 2 [.int .i64 f.params, s]) := by rw [get_push_ne (by omega)]; exact g0
    have hnx2 : H1.next < (H1.push (.cells true 1 [.int .i64 0])).next := by simp
    have x2 : Ext H (H1.push (.cells true 1 [.int .i64 0])) := k2.ext hw
    generalize H1.push (.cells true 1 [.int .i64 0]) = H2 at *
    have hI : OInv2 f H2 H2 (.slice none 0 0) (.slice (some ⟨H1.next, 0, none⟩) 1 1) [0] [] := by
      refine ⟨⟨k2.wf, k2.wf, Ext.refl _, ⟨H1.next, 1, rfl, ?_⟩, .inl ⟨rfl, rfl⟩, by simp [blockOf], fun b h => by cases h⟩, Nat.le_refl _⟩
      refine rdInts_of ?_
      simp only [rdS, gt]
      rw [if_pos (show 1 ≤ capA 1 1 ∧ 0 + 1 * 1 ≤ [Value.int .i64 0].length from ⟨by decide, by simp⟩)]
      rfl
    obtain ⟨e3, H3, v3', out, r3, z1, z3, hD, hw3, x3, hrw, hnew, hle3, hX⟩ := o_loop (call := callI lf) (lf := lf) hps g02 (rdS_ext x2 hs) (fun i x hi => by
      obtain ⟨s', a, _, b⟩ := hx i x hi
      exact ⟨s', a, rdInts_ext x2 b⟩) f.nodes.length lf e2 H2 _ _ [0] [] (by simp) (by omega) (di_start (tree_of hps)) hI (y1.trans (w1.trans v1)) (y3.trans (w3.trans v3)) y4
    obtain ⟨hol, _⟩ := di_end (tree_of hps) hD
    obtain ⟨br, hv3, hbr⟩ : ∃ b, v3' = .slice (some ⟨b, 0, none⟩) out.length BIG ∧ H3.get b = some (.cells true 2 ((out.map (rowOf f)).flatten)) := by
      rcases hrw with ⟨h, _⟩ | h
      · rw [h] at hol; simp at hol; omega
      · exact h
    have hbr2 : H2.next ≤ br := hnew br (by rw [hv3]; rfl)
    obtain ⟨H4, c4, k4, g4⟩ := reverse_run (call := fun _ _ => none) (lf := lf) (L := out.map (rowOf f)) hw3 (by simp; omega) (by simp; omega) (by simp; omega) hbr (fun x hx => by
      obtain ⟨y, _, rfl⟩ := List.mem_map.1 hx
      exact ⟨_, _, rfl⟩)
    rw [List.length_map, ← hv3] at c4
    obtain ⟨e4, r4, u3⟩ := ord_R8 (lf := lf) (env := e3) z3 ((callI_fn (by decide)).trans c4)
    obtain ⟨e5, r5, u2⟩ := ord_R9 (lf := lf) (env := e4) (H := H4) (u3.trans (z3.trans hv3))
    have hblk : evCode Try.prog (callI lf) lf 49 none (cAt Try.f21 [1, 1, 0, 1, 0, 1, 0]) e2 [] H2 = some (.normal, e3, [], H3) := by
      rw [show cAt Try.f21 [1, 1, 0, 1, 0, 1, 0] = .block 0 (.loop (cAt Try.f21 pO)) from rfl, evCode_block, evCode_loop, r3]
      simp
    have hthen : evCode Try.prog (callI lf) lf 49 none (cAt Try.f21 [1, 1, 0, 1, 0]) e1 [] H1 = some (.normal, e4, [], H4) := by
      rw [ev_then (c := cAt Try.f21 [1, 1, 0, 1, 0]) (b := cAt Try.f21 [1, 1, 0, 1, 0, 1]) rfl r2, ev_then (c := cAt Try.f21 [1, 1, 0, 1, 0, 1]) (b := cAt Try.f21 [1, 1, 0, 1, 0, 1, 1]) rfl hblk, r4]
    have hcond : evCode Try.prog (callI lf) lf 49 none (cAt Try.f21 [1, 1, 0, 1]) e1 [] H1 = some (.normal, e4, [], H4) := by
      rw [show cAt Try.f21 [1, 1, 0, 1] = .cond (.tmp 8) (cAt Try.f21 [1, 1, 0, 1, 0]) .skip from rfl, evCode_cond]
      have w8' : e1.val 8 = .bool true := w8
      simp only [evA, w8']
      exact hthen
    have hall : evCode Try.prog (callI lf) lf 49 none (cAt Try.f21 [1, 1]) e0 [] H1 = some (.ret, e5, [], H4.push (.cells true 1 [.slice (some ⟨br, 0, none⟩) out.length BIG])) := by
      rw [ev_then (c := cAt Try.f21 [1, 1]) (a := cAt Try.f21 [1, 1, 0]) (b := cAt Try.f21 [1, 1, 1]) rfl (by rw [ev_then (c := cAt Try.f21 [1, 1, 0]) (b := cAt Try.f21 [1, 1, 0, 1]) rfl r1, hcond]), r5]
    have hbr3 : br < H3.next := hw3.lt hbr
    refine ⟨out, H4.next, br, _, (hfn _ (q0 _ hall)).trans (hend u2), ?_, k4.wf.push _, by have := k4.le; simp; omega, hD, ?_, ?_, by rw [← hol]; exact get_push_self _ _, ?_, hX⟩
    · refine Ext.to_push (fun b ob hb => k4.of_get hw3 (x3 _ _ (x2 b ob hb)) (fun e => ?_)) k4.wf _
      cases e
      have := hw.lt hb
      omega
    · have := k4.le; omega
    · omega
    · rw [get_push_ne (by have := k4.le; omega)]; exact g4
  · intro i hi
    have h8 : (whereL f).2 = 60 := by simp only [whereL, hi]
    rw [h8] at w8
    have hcond : evCode Try.prog (callI lf) lf 49 none (cAt Try.f21 [1, 1, 0, 1]) e1 [] H1 = some (.normal, e1, [], H1) := by
      rw [show cAt Try.f21 [1, 1, 0, 1] = .cond (.tmp 8) (cAt Try.f21 [1, 1, 0, 1, 0]) .skip from rfl, evCode_cond]
      have w8' : e1.val 8 = .bool false := w8
      simp only [evA, w8']
      rfl
    obtain ⟨e5, r5, u2⟩ := ord_R9 (lf := lf) (env := e1) (H := H1) (w3.trans v3)
    have hall : evCode Try.prog (callI lf) lf 49 none (cAt Try.f21 [1, 1]) e0 [] H1 = some (.ret, e5, [], H1.push (.cells true 1 [.slice none 0 0])) := by
      rw [ev_then (c := cAt Try.f21 [1, 1]) (a := cAt Try.f21 [1, 1, 0]) (b := cAt Try.f21 [1, 1, 1]) rfl (by rw [ev_then (c := cAt Try.f21 [1, 1, 0]) (b := cAt Try.f21 [1, 1, 0, 1]) rfl r1, hcond]), r5]
    exact ⟨H1.next, _, (hfn _ (q0 _ hall)).trans (hend u2), x1.to_push k1.wf _, k1.wf.push _, by simp; omega, by omega, get_push_self _ _⟩
end Go.Proofs.Ytpopkajkekceiaa

namespace Go.Proofs.Ytpopkajkekceiaa
open Go Go.Abs
set_option maxRecDepth 100000
set_option linter.unusedSimpArgs false
set_option linter.unusedVariables false

/-! ### FunHolds: a round of 'for i, op := range order' -/
structure WOk (R : List Nat) (j n : Nat) (W : List Int) : Prop where
  len : W.length = n
  at' : ∀ (i x : Nat), i < j → R[i]? = some x → W[x]? = some ((i + 1 : Nat) : Int)
  no : ∀ x, x < n → (∀ i, i < j → R[i]? ≠ some x) → W[x]? = some 0
theorem WOk.step {R : List Nat} {j n k : Nat} {W : List Int} (h : WOk R j n W) (hR : R.Nodup) (hk : R[j]? = some k) (hkn : k < n) : WOk R (j + 1) n (W.set k ((j + 1 : Nat) : Int)) := by
  refine ⟨by simpa using h.len, fun i x hi hx => ?_, fun x hx hno => ?_⟩
  · by_cases hij : i = j
    · subst hij
      rw [hk] at hx; cases hx
      rw [List.getElem?_set_self (by rw [h.len]; exact hkn)]
    · have hne : k ≠ x := fun e => hij (nodup_inj hR (e ▸ hx) hk)
      rw [List.getElem?_set_ne hne]
      exact h.at' i x (by omega) hx
  · have hne : k ≠ x := fun e => hno j (by omega) (e ▸ hk)
    rw [List.getElem?_set_ne hne]
    exact h.no x hx fun i hi => hno i (by omega)

def intsV (W : List Int) : List Value := W.map fun n => Value.int .i64 n
theorem load_ints {H : Heap} {b x : Nat} {W : List Int} {v : Int} (h : H.get b = some (.cells true 1 (intsV W))) (hv : W[x]? = some v) : loadA Try.prog 3 H b x = some (.int .i64 v) := by
  simp [loadA, h, intsV, hv]
theorem store_ints {H : Heap} {b x : Nat} {W : List Int} {v : Int} (h : H.get b = some (.cells true 1 (intsV W))) (hx : x < W.length) : storeA Try.prog 3 H b x (.int .i64 v) = some (H.set b (.cells true 1 (intsV (W.set x v)))) := by
  simp only [storeA, h, info3, size3, cells_int]
  rw [if_pos ⟨rfl, by simp [intsV]; omega, rfl⟩]
  have : ∀ (W : List Int) (x : Nat), x < W.length → putL (intsV W) x [.int .i64 v] = intsV (W.set x v) := by
    intro W
    induction W with
    | nil => intro x hx; simp at hx
    | cons w W ih =>
      intro x hx
      cases x with
      | zero => simp [putL, intsV]
      | succ x =>
        have := ih x (by simpa using hx)
        simp only [List.set_cons_succ]
        simp only [intsV, List.map_cons] at this ⊢
        rw [← this]
        simp [putL]
  rw [this W x hx]
theorem store1i {H : Heap} {b : Nat} {x : Value} {v : Int} (h : H.get b = some (.cells true 1 [x])) : storeA Try.prog 3 H b 0 (.int .i64 v) = some (H.set b (.cells true 1 [.int .i64 v])) := by
  simp only [storeA, h, info3, size3, cells_int]
  rw [if_pos ⟨rfl, by simp, rfl⟩]
  rfl
theorem index38 {b n c : Nat} {i : Int} (h0 : 0 ≤ i) (hi : i < n) : indexAddrA Try.prog 38 (.slice (some ⟨b, 0, none⟩) n c) i = some (.pointer (some ⟨b, i.toNat, none⟩)) := by
  simp only [indexAddrA, Try.underlying38, info3, size3]
  rw [if_pos ⟨h0, hi⟩]
  simp

def pF : List Nat := [1, 1, 1, 1, 1, 1, 0, 1, 0]
noncomputable def loopH (E : Env) (st : LoopState) : AObj := .loop { env := E, params := #[33, 34], assign := cAt Try.f6 (pF ++ [0]), body := cAt Try.f6 (pF ++ [1]), state := st, pending := none, nt := 237, nf := Try.prog.funcs.size }

/-- The heap between two rounds. -/
structure HInv (f : FunD) (R : List Nat) (H0 : Heap) (b1 b2 b4 wb b5 l : Nat) (p s : Value) (E : Env) (j : Nat) (H : Heap) : Prop where
  wf0 : H0.Wf
  wf : H.Wf
  ext : Ext H0 H
  le : H0.next ≤ H.next
  g1 : H.get b1 = some (.cells true 2 [p, s])
  g2 : H.get b2 = some (.cells true 1 [.bool false])
  g4 : H.get b4 = some (.cells true 1 [.slice (some ⟨wb, 0, none⟩) f.nodes.length f.nodes.length])
  gw : ∃ W, H.get wb = some (.cells true 1 (intsV W)) ∧ WOk R j f.nodes.length W
  g5 : H.get b5 = some (.cells true 1 [.int .i64 (j : Int)])
  gl : H.get l = some (loopH E .ready)
  nw : b1 ≠ wb ∧ b2 ≠ wb ∧ b4 ≠ wb ∧ b5 ≠ wb ∧ l ≠ wb
  n5 : b1 ≠ b5 ∧ b2 ≠ b5 ∧ b4 ≠ b5 ∧ l ≠ b5
  nl : b1 ≠ l ∧ b2 ≠ l ∧ b4 ≠ l
  nn : H0.next ≤ wb ∧ H0.next ≤ b5 ∧ H0.next ≤ l
theorem HInv.push {f : FunD} {R : List Nat} {H0 : Heap} {b1 b2 b4 wb b5 l : Nat} {p s : Value} {E : Env} {j : Nat} {H : Heap} (h : HInv f R H0 b1 b2 b4 wb b5 l p s E j H) (o : AObj) : HInv f R H0 b1 b2 b4 wb b5 l p s E j (H.push o) := by
  have k : ∀ {b ob}, H.get b = some ob → (H.push o).get b = some ob := fun hb => by rw [get_push_ne (Nat.ne_of_lt (h.wf.lt hb))]; exact hb
  obtain ⟨W, hw1, hw2⟩ := h.gw
  exact ⟨h.wf0, h.wf.push o, h.ext.to_push h.wf o, by have := h.le; simp; omega, k h.g1, k h.g2, k h.g4, ⟨W, k hw1, hw2⟩, k h.g5, k h.gl, h.nw, h.n5, h.nl, h.nn⟩
theorem HInv.setNew {f : FunD} {R : List Nat} {H0 : Heap} {b1 b2 b4 wb b5 l : Nat} {p s : Value} {E : Env} {j : Nat} {H : Heap} (h : HInv f R H0 b1 b2 b4 wb b5 l p s E j H) (z o : AObj) : HInv f R H0 b1 b2 b4 wb b5 l p s E j ((H.push z).set H.next o) := by
  have k : ∀ {b ob}, H.get b = some ob → ((H.push z).set H.next o).get b = some ob := fun hb => by
    have := Nat.ne_of_lt (h.wf.lt hb)
    rw [get_set_ne this, get_push_ne this]; exact hb
  obtain ⟨W, hw1, hw2⟩ := h.gw
  exact ⟨h.wf0, (h.wf.push z).set (by simp) o, (h.ext.to_push h.wf z).to_set (ext_none h.ext h.wf) o, by have := h.le; simp; omega, k h.g1, k h.g2, k h.g4, ⟨W, k hw1, hw2⟩, k h.g5, k h.gl, h.nw, h.n5, h.nl, h.nn⟩

theorem h_body {call : CallF} {lf : Nat} {env : Env} {f : FunD} {H : Heap} {b1 b4 wb b5 k j l : Nat} {p s : Value} {xs : List (List Value)} {op nn : Int} {l' : Value} {W : List Int}
    (g1 : H.get b1 = some (.cells true 2 [p, s])) (g4 : H.get b4 = some (.cells true 1 [.slice (some ⟨wb, 0, none⟩) f.nodes.length f.nodes.length])) (gw : H.get wb = some (.cells true 1 (intsV W))) (g5 : H.get b5 = some (.cells true 1 [.int .i64 (j : Int)]))
    (hs : rdS H 3 s = some xs) (hxl : xs.length = f.nodes.length) (hx : xs[k]? = some [.int .i64 op, .int .i64 nn, l']) (hWl : W.length = f.nodes.length) (hWk : W[k]? = some 0) (hj : j < 1099511627776) (n45 : b4 ≠ b5) (nw5 : wb ≠ b5)
    (e1 : env.val 1 = .pointer (some ⟨b1, 0, none⟩)) (e4 : env.val 4 = .pointer (some ⟨b4, 0, none⟩)) (e5 : env.val 5 = .pointer (some ⟨b5, 0, none⟩)) (e6 : env.val 6 = .int .i64 k) (e7 : env.val 7 = .int .i64 op) :
    ∃ env', evCode Try.prog call lf 237 (some l) (cAt Try.f6 (pF ++ [1])) env [] H = some (.normal, env', [], (H.set b5 (.cells true 1 [.int .i64 ((j + 1 : Nat) : Int)])).set wb (.cells true 1 (intsV (W.set k ((j + 1 : Nat) : Int))))) := by
  have hkl := (List.getElem?_eq_some_iff.1 hx).1
  have hlen := len_of (H' := H) (P := Try.prog) (t := 22) hs Try.underlying22
  have ld1 : loadA Try.prog 22 H b1 1 = some s := by simp [loadA, g1]
  have ld4 : loadA Try.prog 38 H b4 0 = some (.slice (some ⟨wb, 0, none⟩) f.nodes.length f.nodes.length) := by simp [loadA, g4]
  have ix := rdS_index hs Try.underlying22 info40 (by simp) (n := (k : Int)) (by omega) (by omega)
  simp only [Int.toNat_natCast] at ix
  have lo := rdS_load0 hs hx (u := .int .i64 op) rfl (t := 37) info37 Try.underlying37 rfl
  have iw := index38 (b := wb) (n := f.nodes.length) (c := f.nodes.length) (i := (k : Int)) (by omega) (by omega)
  simp only [Int.toNat_natCast] at iw
  have lw := load_ints gw hWk
  have l5 : loadA Try.prog 3 H b5 0 = some (.int .i64 (j : Int)) := by simp [loadA, g5]
  have w1 : IntKind.i64.wrap ((j : Int) + 1) = (j : Int) + 1 := wrapI (by omega) (by omega)
  have st5 := store1i (v := (j : Int) + 1) g5
  have ld4' : loadA Try.prog 38 (H.set b5 (.cells true 1 [.int .i64 ((j : Int) + 1)])) b4 0 = some (.slice (some ⟨wb, 0, none⟩) f.nodes.length f.nodes.length) := by rw [loadA_set n45]; exact ld4
  have l5' : loadA Try.prog 3 (H.set b5 (.cells true 1 [.int .i64 ((j : Int) + 1)])) b5 0 = some (.int .i64 ((j : Int) + 1)) := by simp [loadA, get_set_self]
  have stw := store_ints (H := H.set b5 (.cells true 1 [.int .i64 ((j : Int) + 1)])) (b := wb) (x := k) (v := (j : Int) + 1) (by rw [get_set_ne nw5]; exact gw) (by omega)
  rw [show ((j + 1 : Nat) : Int) = (j : Int) + 1 by omega]
  have c1 : ¬ (k : Int) < 0 := by omega
  have c2 : ¬ (xs.length : Int) ≤ (k : Int) := by omega
  have c2' : ¬ xs.length ≤ k := by omega
  generalize hr : evCode Try.prog call lf 237 (some l) (cAt Try.f6 (pF ++ [1])) env [] H = out
  simp [pF, Try.f6, e1, e4, e5, e6, e7, ld1, hlen, c1, c2, c2', ld4, iw, lw, ix, lo, l5, w1, st5, ld4', l5', stw] at hr
  subst hr
  exact ⟨_, rfl⟩
end Go.Proofs.Ytpopkajkekceiaa

namespace Go.Proofs.Ytpopkajkekceiaa
open Go Go.Abs
set_option maxRecDepth 100000
set_option linter.unusedSimpArgs false
set_option linter.unusedVariables false

theorem h_assign {call : CallF} {lf l : Nat} {E : Env} {H : Heap} {k op : Int} :
    ∃ env', evCode Try.prog call lf 237 (some l) (cAt Try.f6 (pF ++ [0])) (bindA [33, 34] [.int .i64 k, .int .i64 op] E) [] H = some (.normal, env', [], H) ∧ env'.val 1 = E.val 1 ∧ env'.val 4 = E.val 4 ∧ env'.val 5 = E.val 5 ∧ env'.val 6 = .int .i64 k ∧ env'.val 7 = .int .i64 op := by
  generalize hr : evCode Try.prog call lf 237 (some l) (cAt Try.f6 (pF ++ [0])) (bindA [33, 34] [.int .i64 k, .int .i64 op] E) [] H = out
  simp [pF, Try.f6, bindA] at hr
  subst hr
  exact ⟨_, rfl, by simp⟩

theorem h_round {call : CallF} {lf : Nat} {f : FunD} {R : List Nat} {H0 H : Heap} {b1 b2 b4 wb b5 l j k : Nat} {p s : Value} {E : Env} {xs : List (List Value)} {x : NodeD} {l' : Value}
    (hI : HInv f R H0 b1 b2 b4 wb b5 l p s E j H) (hs : rdS H0 3 s = some xs) (hxl : xs.length = f.nodes.length) (hx : xs[k]? = some [.int .i64 x.op, .int .i64 x.n, l']) (hR : R.Nodup) (hk : R[j]? = some k) (hj : j < 1099511627776)
    (e1 : E.val 1 = .pointer (some ⟨b1, 0, none⟩)) (e4 : E.val 4 = .pointer (some ⟨b4, 0, none⟩)) (e5 : E.val 5 = .pointer (some ⟨b5, 0, none⟩)) :
    ∃ H', evRound Try.prog call lf l [.int .i64 (k : Int), .int .i64 x.op] H = some (.ret (.bool true), H') ∧ HInv f R H0 b1 b2 b4 wb b5 l p s E (j + 1) H' ∧ (∀ b ob, H.get b = some ob → b ≠ wb → b ≠ b5 → b ≠ l → H'.get b = some ob) := by
  have hkn : k < f.nodes.length := by have := (List.getElem?_eq_some_iff.1 hx).1; omega
  obtain ⟨W, gw, hW⟩ := hI.gw
  obtain ⟨nw1, nw2, nw4, nw5, nwl⟩ := hI.nw
  obtain ⟨n51, n52, n54, n5l⟩ := hI.n5
  obtain ⟨nl1, nl2, nl4⟩ := hI.nl
  obtain ⟨nnw, nn5, nnl⟩ := hI.nn
  have hWk : W[k]? = some 0 := by
    refine hW.no k hkn fun i hi e => ?_
    have := nodup_inj hR e hk
    omega
  obtain ⟨env1, r1, v1, v4, v5, v6, v7⟩ := h_assign (call := call) (lf := lf) (l := l) (E := E) (H := H) (k := (k : Int)) (op := x.op)
  have hlt := hI.wf.lt hI.gl
  have ext1 : Ext H0 (H.set l (loopH E .busy)) := hI.ext.to_set (hI.wf0 l nnl) _
  obtain ⟨env2, r2⟩ := h_body (call := call) (lf := lf) (env := env1) (f := f) (H := H.set l (loopH E .busy)) (b1 := b1) (b4 := b4) (wb := wb) (b5 := b5) (k := k) (j := j) (l := l) (W := W)
    (by rw [get_set_ne nl1]; exact hI.g1) (by rw [get_set_ne nl4]; exact hI.g4) (by rw [get_set_ne (Ne.symm nwl)]; exact gw) (by rw [get_set_ne (Ne.symm n5l)]; exact hI.g5) (rdS_ext ext1 hs) hxl hx hW.len hWk hj n54 (Ne.symm nw5) (v1.trans e1) (v4.trans e4) (v5.trans e5) v6 v7
  have gl2 : (((H.set l (loopH E .busy)).set b5 (.cells true 1 [.int .i64 ((j + 1 : Nat) : Int)])).set wb (.cells true 1 (intsV (W.set k ((j + 1 : Nat) : Int))))).get l = some (loopH E .busy) := by
    rw [get_set_ne nwl, get_set_ne n5l, get_set_self]
  refine ⟨(((H.set l (loopH E .busy)).set b5 (.cells true 1 [.int .i64 ((j + 1 : Nat) : Int)])).set wb (.cells true 1 (intsV (W.set k ((j + 1 : Nat) : Int))))).set l (loopH E .ready), ?_, ?_, ?_⟩
  · unfold evRound
    rw [show H.get l = some (.loop { env := E, params := #[33, 34], assign := cAt Try.f6 (pF ++ [0]), body := cAt Try.f6 (pF ++ [1]), state := .ready, pending := none, nt := 237, nf := Try.prog.funcs.size }) from hI.gl]
    simp only [isReady]
    rw [if_pos ⟨trivial, by rfl, trivial⟩]
    rw [show evCode Try.prog call lf 237 (some l) (cAt Try.f6 (pF ++ [0])) (bindA [33, 34] [.int .i64 (k : Int), .int .i64 x.op] E) [] H = _ from r1]
    simp only
    rw [show H.get l = some (.loop { env := E, params := #[33, 34], assign := cAt Try.f6 (pF ++ [0]), body := cAt Try.f6 (pF ++ [1]), state := .ready, pending := none, nt := 237, nf := Try.prog.funcs.size }) from hI.gl]
    simp only [if_true]
    rw [show evCode Try.prog call lf 237 (some l) (cAt Try.f6 (pF ++ [1])) env1 [] (H.set l (.loop { env := E, params := #[33, 34], assign := cAt Try.f6 (pF ++ [0]), body := cAt Try.f6 (pF ++ [1]), state := .busy, pending := none, nt := 237, nf := Try.prog.funcs.size })) = _ from r2]
    simp only [roundEnd]
    rw [show (((H.set l (loopH E .busy)).set b5 (.cells true 1 [.int .i64 ((j + 1 : Nat) : Int)])).set wb (.cells true 1 (intsV (W.set k ((j + 1 : Nat) : Int))))).get l = some (.loop { env := E, params := #[33, 34], assign := cAt Try.f6 (pF ++ [0]), body := cAt Try.f6 (pF ++ [1]), state := .busy, pending := none, nt := 237, nf := Try.prog.funcs.size }) from gl2]
    rfl
  · have hb5 := hI.wf.lt hI.g5
    have hwb := hI.wf.lt gw
    refine ⟨hI.wf0, (((hI.wf.set hlt _).set (by simpa using hb5) _).set (by simpa using hwb) _).set (by simpa using hlt) _, ((ext1.to_set (hI.wf0 b5 nn5) _).to_set (hI.wf0 wb nnw) _).to_set (hI.wf0 l nnl) _, by simpa using hI.le, ?_, ?_, ?_, ?_, ?_, get_set_self _ _ _, hI.nw, hI.n5, hI.nl, hI.nn⟩
    · rw [get_set_ne nl1, get_set_ne nw1, get_set_ne n51, get_set_ne nl1]; exact hI.g1
    · rw [get_set_ne nl2, get_set_ne nw2, get_set_ne n52, get_set_ne nl2]; exact hI.g2
    · rw [get_set_ne nl4, get_set_ne nw4, get_set_ne n54, get_set_ne nl4]; exact hI.g4
    · exact ⟨_, by rw [get_set_ne (Ne.symm nwl), get_set_self], hW.step hR hk hkn⟩
    · rw [get_set_ne (Ne.symm n5l), get_set_ne nw5, get_set_self]
  · intro b ob hb h1 h2 h3
    rw [get_set_ne h3, get_set_ne h1, get_set_ne h2, get_set_ne h3]; exact hb

/-! ### Going over rows -/
def pT : List Nat := [0, 1, 1, 0, 0]
structure Going (call : CallF) (rows : List (List Value)) (br l : Nat) (I : Nat → Heap → Prop) : Prop where
  wf : ∀ j H, I j H → H.Wf
  fresh : ∀ j H z o, I j H → I j ((H.push z).set H.next o)
  tab : ∀ j H, I j H → H.get br = some (.cells true 2 rows.flatten)
  loop : ∀ j H, I j H → ∃ c : ALoop, H.get l = some (.loop c) ∧ c.params.size = 2
  round : ∀ j H (k op : Int), I j H → rows[j]? = some [.int .i64 k, .int .i64 op] → ∃ H', call (.round l [.int .i64 k, .int .i64 op]) H = some (.ret (.bool true), H') ∧ I (j + 1) H'

theorem store2 {H : Heap} {a b : Value} {x y : Value} (ha : oneC a = true) (hb : oneC b = true) (t : TypeId) (i : TypeInfo) (hi : Try.prog.info? t = some i) (hs : i.size = 2) :
    storeA Try.prog t (H.push (.cells true 2 [x, y])) H.next 0 (.agg #[a, b]) = some ((H.push (.cells true 2 [x, y])).set H.next (.cells true 2 [a, b])) := by
  simp only [storeA, get_push_self, hi, hs, cells_agg]
  rw [if_pos ⟨rfl, by simp, by simp [ha, hb]⟩]
  simp [putL]

theorem t_round {call : CallF} {lf : Nat} {rows : List (List Value)} {br l j : Nat} {I : Nat → Heap → Prop} {env : Env} {H : Heap} (G : Going call rows br l I) (hI : I j H) (hrows : ∀ x ∈ rows, ∃ u w : Int, x = [.int .i64 u, .int .i64 w]) (hj : j < rows.length) (hn : rows.length < 1099511627776)
    (e0 : env.val 0 = .func (.yield l) #[] #[]) (e5 : env.val 5 = .slice (some ⟨br, 0, none⟩) rows.length BIG) (e6 : env.val 6 = .int .i64 rows.length) (e7 : env.val 7 = .int .i64 j) :
    ∃ env' H', evCode Try.prog call lf 19 none (cAt Try.f52 pT) env [] H = some (.normal, env', [], H') ∧ env'.val 0 = env.val 0 ∧ env'.val 5 = env.val 5 ∧ env'.val 6 = env.val 6 ∧ env'.val 7 = .int .i64 ((j + 1 : Nat) : Int) ∧ I (j + 1) H' := by
  obtain ⟨row, hrow⟩ : ∃ r, rows[j]? = some r := ⟨_, List.getElem?_eq_getElem hj⟩
  obtain ⟨u, w, rfl⟩ := hrows row (List.mem_of_getElem? hrow)
  have hrd := rd_of_cells (G.tab j H hI) (fun x hx => by obtain ⟨u, w, rfl⟩ := hrows x hx; rfl)
  have ix := rdS_index hrd Try.underlying70 info72 size72 (n := (j : Int)) (by omega) (by omega)
  have lo := rdS_loadA hrd hrow (t := 72) info72 size72 Try.underlying72 rfl
  simp only [Int.toNat_natCast, blk, offs, Nat.zero_add] at ix lo
  have st := store2 (H := H) (a := .int .i64 u) (b := .int .i64 w) (x := .int .i64 0) (y := .int .i64 0) rfl rfl 72 _ info72 size72
  have hI2 := G.fresh j H (.cells true 2 [.int .i64 0, .int .i64 0]) (.cells true 2 [.int .i64 u, .int .i64 w]) hI
  obtain ⟨c, hc1, hc2⟩ := G.loop _ _ hI2
  obtain ⟨H', hr, hI3⟩ := G.round j _ u w hI2 hrow
  have l0 : loadA Try.prog 3 ((H.push (.cells true 2 [.int .i64 0, .int .i64 0])).set H.next (.cells true 2 [.int .i64 u, .int .i64 w])) H.next 0 = some (.int .i64 u) := by simp [loadA, get_set_self]
  have l1 : loadA Try.prog 37 ((H.push (.cells true 2 [.int .i64 0, .int .i64 0])).set H.next (.cells true 2 [.int .i64 u, .int .i64 w])) H.next 1 = some (.int .i64 w) := by simp [loadA, get_set_self]
  have w1 : IntKind.i64.wrap ((j : Int) + 1) = (j : Int) + 1 := wrapI (by omega) (by omega)
  have c1 : (j : Int) < (rows.length : Int) := by omega
  generalize hrr : evCode Try.prog call lf 19 none (cAt Try.f52 pT) env [] H = out
  simp [pT, Try.f52, e0, e5, e6, e7, c1, hj, ix, lo, st, l0, l1, callA, hc1, hc2, hr, w1] at hrr
  subst hrr
  exact ⟨_, H', rfl, by simp [e0], by simp [e5], by simp [e6], by simp, hI3⟩
end Go.Proofs.Ytpopkajkekceiaa

namespace Go.Proofs.Ytpopkajkekceiaa
open Go Go.Abs
set_option maxRecDepth 100000
set_option linter.unusedSimpArgs false
set_option linter.unusedVariables false

theorem t_exit {call : CallF} {lf : Nat} {env : Env} {H : Heap} {n j : Nat} (hj : n ≤ j) (e6 : env.val 6 = .int .i64 n) (e7 : env.val 7 = .int .i64 j) :
    ∃ env', evCode Try.prog call lf 19 none (cAt Try.f52 pT) env [] H = some (.exit 0, env', [], H) := by
  have c1 : ¬ (j : Int) < (n : Int) := by omega
  have c2 : ¬ j < n := by omega
  generalize hr : evCode Try.prog call lf 19 none (cAt Try.f52 pT) env [] H = out
  simp [pT, Try.f52, e6, e7, c1, c2] at hr
  subst hr
  exact ⟨_, rfl⟩
theorem t_loop {call : CallF} {lf : Nat} {rows : List (List Value)} {br l : Nat} {I : Nat → Heap → Prop} (G : Going call rows br l I) (hrows : ∀ x ∈ rows, ∃ u w : Int, x = [.int .i64 u, .int .i64 w]) (hn : rows.length < 1099511627776) : ∀ (m j : Nat) (env : Env) (H : Heap), rows.length < m + j → j ≤ rows.length → I j H →
    env.val 0 = .func (.yield l) #[] #[] → env.val 5 = .slice (some ⟨br, 0, none⟩) rows.length BIG → env.val 6 = .int .i64 rows.length → env.val 7 = .int .i64 j →
    ∃ env' H', evLoop Try.prog call lf 19 none (cAt Try.f52 pT) m env [] H = some (.exit 0, env', [], H') ∧ I rows.length H'
  | 0, j, env, H, hm, hj, _, _, _, _, _ => by omega
  | m + 1, j, env, H, hm, hj, hI, e0, e5, e6, e7 => by
    by_cases hlt : j < rows.length
    · obtain ⟨env', H', he, k0, k5, k6, k7, hI'⟩ := t_round (lf := lf) G hI hrows hlt hn e0 e5 e6 e7
      simp only [evLoop_succ, he]
      exact t_loop G hrows hn m (j + 1) env' H' (by omega) (by omega) hI' (k0.trans e0) (k5.trans e5) (k6.trans e6) k7
    · obtain ⟨env', he⟩ := t_exit (call := call) (lf := lf) (H := H) (by omega) e6 e7
      simp only [evLoop_succ, he]
      have : j = rows.length := by omega
      subst this
      exact ⟨env', H, rfl, hI⟩

theorem t_run {call : CallF} {lf : Nat} {rows : List (List Value)} {br bt l : Nat} {I : Nat → Heap → Prop} {H : Heap} (G : Going call rows br l I) (hrows : ∀ x ∈ rows, ∃ u w : Int, x = [.int .i64 u, .int .i64 w]) (hn : rows.length < 1099511627776) (hlf : rows.length < lf) (hI : I 0 H) (hbt : H.get bt = some (.cells true 1 [.slice (some ⟨br, 0, none⟩) rows.length BIG])) :
    ∃ H', evFn Try.prog call lf 52 [.func (.yield l) #[] #[], .pointer (some ⟨bt, 0, none⟩)] H = some (.ret (.tuple #[]), H') ∧ I rows.length H' := by
  have ld : loadA Try.prog 70 H bt 0 = some (.slice (some ⟨br, 0, none⟩) rows.length BIG) := by simp [loadA, hbt]
  have r0 : ∃ e, evCode Try.prog call lf 19 none (cAt Try.f52 [0, 1, 0]) (envOf 0 [.func (.yield l) #[] #[], .pointer (some ⟨bt, 0, none⟩)] .nil) [] H = some (.normal, e, [], H) ∧ e.val 0 = .func (.yield l) #[] #[] ∧ e.val 5 = .slice (some ⟨br, 0, none⟩) rows.length BIG ∧ e.val 6 = .int .i64 rows.length ∧ e.val 7 = .int .i64 ((0 : Nat) : Int) := by
    generalize hr : evCode Try.prog call lf 19 none (cAt Try.f52 [0, 1, 0]) (envOf 0 [.func (.yield l) #[] #[], .pointer (some ⟨bt, 0, none⟩)] .nil) [] H = out
    simp [Try.f52, Try.underlying70, ld] at hr
    subst hr
    exact ⟨_, rfl, by simp⟩
  obtain ⟨e, r0, v0, v5, v6, v7⟩ := r0
  obtain ⟨e', H', r1, hI'⟩ := t_loop (lf := lf) G hrows hn lf 0 e H (by omega) (by omega) hI v0 v5 v6 v7
  refine ⟨H', ?_, hI'⟩
  rw [evFn_at Try.func52 body52 (by simp), Try.ntmps52, show cAt Try.f52 [] = .scope (.seq (.label 0) (.seq (cAt Try.f52 [0, 1, 0]) (.block 0 (.loop (cAt Try.f52 pT))))) from rfl, evCode_scope, evCode_seq, evCode_label]
  simp only
  rw [evCode_seq, r0]
  simp only
  rw [evCode_block, evCode_loop, r1]
  simp [fnEnd, Try.f52]

theorem t_run_nil {call : CallF} {lf : Nat} {bt l : Nat} {H : Heap} (hlf : 0 < lf) (hbt : H.get bt = some (.cells true 1 [.slice none 0 0])) :
    evFn Try.prog call lf 52 [.func (.yield l) #[] #[], .pointer (some ⟨bt, 0, none⟩)] H = some (.ret (.tuple #[]), H) := by
  have ld : loadA Try.prog 70 H bt 0 = some (.slice none 0 0) := by simp [loadA, hbt]
  have r0 : ∃ e, evCode Try.prog call lf 19 none (cAt Try.f52 [0, 1, 0]) (envOf 0 [.func (.yield l) #[] #[], .pointer (some ⟨bt, 0, none⟩)] .nil) [] H = some (.normal, e, [], H) ∧ e.val 6 = .int .i64 ((0 : Nat) : Int) ∧ e.val 7 = .int .i64 ((0 : Nat) : Int) := by
    generalize hr : evCode Try.prog call lf 19 none (cAt Try.f52 [0, 1, 0]) (envOf 0 [.func (.yield l) #[] #[], .pointer (some ⟨bt, 0, none⟩)] .nil) [] H = out
    simp [Try.f52, Try.underlying70, ld] at hr
    subst hr
    exact ⟨_, rfl, by simp⟩
  obtain ⟨e, r0, v6, v7⟩ := r0
  obtain ⟨m, rfl⟩ : ∃ m, lf = m + 1 := ⟨lf - 1, by omega⟩
  obtain ⟨e', r1⟩ := t_exit (call := call) (lf := m + 1) (H := H) (Nat.le_refl _) v6 v7
  rw [evFn_at Try.func52 body52 (by simp), Try.ntmps52, show cAt Try.f52 [] = .scope (.seq (.label 0) (.seq (cAt Try.f52 [0, 1, 0]) (.block 0 (.loop (cAt Try.f52 pT))))) from rfl, evCode_scope, evCode_seq, evCode_label]
  simp only
  rw [evCode_seq, r0]
  simp only
  rw [evCode_block, evCode_loop, evLoop_succ, r1]
  simp [fnEnd, Try.f52]

/-! ### FunHolds: up to the end of the range -/
noncomputable def c6 : List (Contract Try.prog) := [fewC, worksC, numC, checkC, depthC, parentC]
noncomputable def callH (lf : Nat) : CallF := orC (callOf c6) (ev1 Try.prog (callI lf) lf)
theorem callH_ok (lf : Nat) : CallOk Try.prog (callH lf) := orC_ok (callOf_ok _) (ev1_sound (callI_ok lf))
theorem callH_fn {lf : Nat} {f : FuncId} {args : List Value} {H : Heap} (h1 : f ≠ 9) (h2 : f ≠ 10) (h3 : f ≠ 13) (h4 : f ≠ 14) (h5 : f ≠ 15) (h6 : f ≠ 17) : callH lf (.fn f args) H = evFn Try.prog (callI lf) lf f args H := by
  unfold callH
  rw [orC_miss (by unfold c6; rw [callOf_miss h1, callOf_miss h2, callOf_miss h3, callOf_miss h4, callOf_miss h5, callOf_miss h6]; rfl)]
  rfl
theorem callI_round {lf l : Nat} {args : List Value} {H : Heap} : callI lf (.round l args) H = evRound Try.prog (fun _ _ => none) lf l args H := by
  unfold callI
  rw [orC_miss rfl]
  rfl
theorem callH_few {lf : Nat} {H : Heap} {v : Value} {f : FunD} (h : rdFun H v = some f) : callH lf (.fn 9 [v]) H = some (.ret (.bool (fewL f)), H) := orC_hit (few_hit h)
theorem callH_works {lf : Nat} {H : Heap} : callH lf (.fn 10 []) H = some (.ret (.bool true), H) := orC_hit (by unfold c6; rw [callOf_miss (by decide)]; exact callOf_hit rfl rfl)
theorem callH_num {lf : Nat} {H : Heap} {n : Int} : callH lf (.fn 13 [.int .i64 n]) H = some (.ret (.int .i64 n), H) := orC_hit (by unfold c6; rw [callOf_miss (by decide), callOf_miss (by decide)]; exact callOf_hit rfl rfl)
theorem callH_check {lf : Nat} {H : Heap} {v : Value} {f : FunD} (h : rdFit H v = some f) : callH lf (.fn 14 [v]) H = some (.ret (.int .i64 (whereL f).2), H) := orC_hit (by unfold c6; rw [callOf_miss (by decide), callOf_miss (by decide), callOf_miss (by decide)]; exact check_hit h)
theorem callH_depth {lf : Nat} {H : Heap} {v : Value} {f : FunD} {n : Int} (h : rdFit H v = some f) : callH lf (.fn 15 [v, .int .i64 n]) H = some (.ret (.tuple #[.int .i64 (placedL f n).1.vars, .int .i64 (placedL f n).2]), H) :=
  orC_hit (by
    unfold c6; rw [callOf_miss (by decide), callOf_miss (by decide), callOf_miss (by decide), callOf_miss (by decide)]
    refine callOf_hit rfl ?_
    simp [depthC, Contract.plain, h])
theorem callH_parent {lf : Nat} {H : Heap} {v : Value} {f : FunD} {n : Int} (h : rdFit H v = some f) : callH lf (.fn 17 [v, .int .i64 n]) H = some (.ret (.tuple #[.int .i64 (parentL f n).1, .int .i64 (parentL f n).2]), H) :=
  orC_hit (by
    unfold c6; rw [callOf_miss (by decide), callOf_miss (by decide), callOf_miss (by decide), callOf_miss (by decide), callOf_miss (by decide)]
    refine callOf_hit rfl ?_
    simp [parentC, Contract.plain, h])

theorem make38 {H : Heap} {m : Nat} (hm : m ≤ 1000) : makeSliceA Try.prog 38 (m : Int) (m : Int) H = some (.slice (some ⟨H.next, 0, none⟩) m m, H.push (.cells true 1 (intsV (List.replicate m 0)))) := by
  have he : elemA Try.prog 38 = some (3, Try.t3) := by rfl
  have hby : Try.t3.bytes ≤ 65536 := by decide
  have hsz : Try.t3.size = 1 := by kernel_rfl
  simp only [makeSliceA, he, zero3]
  rw [if_pos ⟨by omega, Int.le_refl _, by omega, hby, by decide, by rfl⟩]
  have : madeL (Value.int .i64 0).cells.toList ((m : Int).toNat * Try.t3.size) = intsV (List.replicate m 0) := by
    rw [hsz]
    apply List.ext_getElem?
    intro j
    simp only [madeL, intsV]
    by_cases hj : j < m
    · simp [hj, Nat.mod_one]
    · rw [List.getElem?_eq_none (by simp; omega), List.getElem?_eq_none (by simp; omega)]
  rw [this, hsz]
  simp
end Go.Proofs.Ytpopkajkekceiaa
