/-
  A part of a proof: texts laid behind one another (W77, W78, W79, W80, W81, W82, W83, W84, W85).
-/
import Derived.Test.YtpopkajkekceiaaGW9
import Derived.Test.YtpopkajkekceiaaGW7
import Derived.Test.YtpopkajkekceiaaGW6
namespace Go.Proofs.Ytpopkajkekceiaa
open Go Go.Abs
set_option maxRecDepth 100000
set_option linter.unusedSimpArgs false
set_option linter.unusedVariables false

/-! ### The order in which nodes are done -/
def postK (kids : Nat → List Nat) : Nat → Nat → List Nat
  | 0, _ => []
  | k + 1, i => (kids i).flatMap (postK kids k) ++ [i]
theorem postK_stab {kids : Nat → List Nat} {n : Nat} (hk : ∀ i c, c ∈ kids i → i < c ∧ c < n) : ∀ (k m i : Nat), i < n → n - i ≤ k → n - i ≤ m → postK kids k i = postK kids m i
  | 0, m, i, hi, h, _ => by omega
  | k + 1, 0, i, hi, _, h => by omega
  | k + 1, m + 1, i, hi, h1, h2 => by
    simp only [postK]
    congr 1
    have : ∀ (l : List Nat), (∀ c ∈ l, i < c ∧ c < n) → l.flatMap (postK kids k) = l.flatMap (postK kids m) := by
      intro l
      induction l with
      | nil => intro _; rfl
      | cons c l ih =>
        intro h
        have hc := h c (by simp)
        rw [List.flatMap_cons, List.flatMap_cons, ih fun d hd => h d (by simp [hd]), postK_stab hk k m c hc.2 (by omega) (by omega)]
    exact this _ fun c hc => hk i c hc
def post (kids : Nat → List Nat) (n i : Nat) : List Nat := postK kids (n - i) i
theorem post_eq {kids : Nat → List Nat} {n : Nat} (hk : ∀ i c, c ∈ kids i → i < c ∧ c < n) {i : Nat} (hi : i < n) : post kids n i = (kids i).flatMap (post kids n) ++ [i] := by
  unfold post
  obtain ⟨m, hm⟩ : ∃ m, n - i = m + 1 := ⟨n - i - 1, by omega⟩
  rw [hm]
  simp only [postK]
  congr 1
  have : ∀ (l : List Nat), (∀ c ∈ l, i < c ∧ c < n) → l.flatMap (postK kids m) = l.flatMap (fun c => postK kids (n - c) c) := by
    intro l
    induction l with
    | nil => intro _; rfl
    | cons c l ih =>
      intro h
      have hc := h c (by simp)
      rw [List.flatMap_cons, List.flatMap_cons, ih fun d hd => h d (by simp [hd]), postK_stab hk m (n - c) c hc.2 (by omega) (Nat.le_refl _)]
  exact this _ fun c hc => hk i c hc

/-- What Order makes, is that order backwards. -/
theorem order_post {kids : Nat → List Nat} {n : Nat} (hk : ∀ i c, c ∈ kids i → i < c ∧ c < n) (hn : 0 < n) {out : List Nat} (h : ∀ X : List Nat → List Nat → Prop, (∀ S a out, X (S ++ [a]) out → X (S ++ kids a) (out ++ [a])) → X [0] [] → X [] out) : out.reverse = post kids n 0 := by
  have := h (fun S out => (∀ a ∈ S, a < n) ∧ out ++ S.reverse.flatMap (fun i => (post kids n i).reverse) = (post kids n 0).reverse) ?_ ⟨by simp [hn], by simp⟩
  · obtain ⟨_, h2⟩ := this
    simp at h2
    rw [h2, List.reverse_reverse]
  · rintro S a out ⟨h1, h2⟩
    have ha := h1 a (by simp)
    refine ⟨fun b hb => ?_, ?_⟩
    · rcases List.mem_append.1 hb with hb | hb
      · exact h1 b (by simp [hb])
      · exact (hk a b hb).2
    · rw [← h2]
      simp only [List.reverse_append, List.reverse_cons, List.reverse_nil, List.nil_append, List.flatMap_append, List.flatMap_cons, List.flatMap_nil, List.append_nil, List.append_assoc]
      congr 1
      rw [post_eq hk ha]
      simp only [List.reverse_append, List.reverse_cons, List.reverse_nil, List.nil_append, List.cons_append]
      have rev : ∀ (l : List Nat), l.reverse.flatMap (fun i => (post kids n i).reverse) = (l.flatMap (post kids n)).reverse := by
        intro l
        induction l with
        | nil => rfl
        | cons c l ih => simp [List.flatMap_append, ih]
      rw [rev]
theorem post_len {kids : Nat → List Nat} {n : Nat} (hk : ∀ i c, c ∈ kids i → i < c ∧ c < n) {i c : Nat} (hi : i < n) (hc : c ∈ kids i) : (post kids n c).length < (post kids n i).length := by
  rw [post_eq hk hi, List.length_append, List.length_flatMap]
  have : ∀ (l : List Nat), c ∈ l → (post kids n c).length ≤ (l.map fun a => (post kids n a).length).sum := by
    intro l
    induction l with
    | nil => intro h; simp at h
    | cons d l ih =>
      intro h
      rw [List.map_cons, List.sum_cons]
      rcases List.mem_cons.1 h with rfl | h
      · omega
      · have := ih h; omega
  have := this _ hc
  simp only [List.length_cons, List.length_nil]
  omega
end Go.Proofs.Ytpopkajkekceiaa

namespace Go.Proofs.Ytpopkajkekceiaa
open Go Go.Abs
set_option maxRecDepth 100000
set_option linter.unusedSimpArgs false
set_option linter.unusedVariables false

/-! ### Going over rows, up to a stop -/
structure GoingS (call : CallF) (rows : List (List Value)) (br l stop : Nat) (I : Nat → Heap → Prop) (J : Heap → Prop) : Prop where
  wf : ∀ j H, I j H → H.Wf
  fresh : ∀ j H z o, I j H → I j ((H.push z).set H.next o)
  tab : ∀ j H, I j H → H.get br = some (.cells true 2 rows.flatten)
  loop : ∀ j H, I j H → ∃ c : ALoop, H.get l = some (.loop c) ∧ c.params.size = 2
  round : ∀ j H (k op : Int), I j H → rows[j]? = some [.int .i64 k, .int .i64 op] → j + 1 ≠ stop → ∃ H', call (.round l [.int .i64 k, .int .i64 op]) H = some (.ret (.bool true), H') ∧ I (j + 1) H'
  last : ∀ j H (k op : Int), I j H → rows[j]? = some [.int .i64 k, .int .i64 op] → j + 1 = stop → ∃ H', call (.round l [.int .i64 k, .int .i64 op]) H = some (.ret (.bool false), H') ∧ J H'

theorem storeQ {H : Heap} {a b : Value} {x y : Value} (ha : oneC a = true) (hb : oneC b = true) (t : TypeId) (i : TypeInfo) (hi : Try.prog.info? t = some i) (hs : i.size = 2) :
    storeA Try.prog t (H.push (.cells true 2 [x, y])) H.next 0 (.agg #[a, b]) = some ((H.push (.cells true 2 [x, y])).set H.next (.cells true 2 [a, b])) := by
  simp only [storeA, get_push_self, hi, hs, cells_agg]
  rw [if_pos ⟨rfl, by simp, by simp [ha, hb]⟩]
  simp [putL]

theorem go_round {call : CallF} {lf : Nat} {rows : List (List Value)} {br l stop j : Nat} {I : Nat → Heap → Prop} {J : Heap → Prop} {env : Env} {H : Heap} (G : GoingS call rows br l stop I J) (hI : I j H) (hrows : ∀ x ∈ rows, ∃ u w : Int, x = [.int .i64 u, .int .i64 w]) (hj : j < rows.length) (hn : rows.length < 1099511627776)
    (e0 : env.val 0 = .func (.yield l) #[] #[]) (e5 : env.val 5 = .slice (some ⟨br, 0, none⟩) rows.length BIG) (e6 : env.val 6 = .int .i64 rows.length) (e7 : env.val 7 = .int .i64 j) :
    (j + 1 ≠ stop → ∃ env' H', evCode Try.prog call lf 19 none (cAt Try.f52 pT) env [] H = some (.normal, env', [], H') ∧ env'.val 0 = env.val 0 ∧ env'.val 5 = env.val 5 ∧ env'.val 6 = env.val 6 ∧ env'.val 7 = .int .i64 ((j + 1 : Nat) : Int) ∧ I (j + 1) H') ∧
    (j + 1 = stop → ∃ env' H', evCode Try.prog call lf 19 none (cAt Try.f52 pT) env [] H = some (.exit 0, env', [], H') ∧ J H') := by
  obtain ⟨row, hrow⟩ : ∃ r, rows[j]? = some r := ⟨_, List.getElem?_eq_getElem hj⟩
  obtain ⟨u, w, rfl⟩ := hrows row (List.mem_of_getElem? hrow)
  have hrd := rd_of_cells (G.tab j H hI) (fun x hx => by obtain ⟨u, w, rfl⟩ := hrows x hx; rfl)
  have ix := rdS_index hrd Try.underlying70 info72 size72 (n := (j : Int)) (by omega) (by omega)
  have lo := rdS_loadA hrd hrow (t := 72) info72 size72 Try.underlying72 rfl
  simp only [Int.toNat_natCast, blk, offs, Nat.zero_add] at ix lo
  have st := storeQ (H := H) (a := .int .i64 u) (b := .int .i64 w) (x := .int .i64 0) (y := .int .i64 0) rfl rfl 72 _ info72 size72
  have hI2 := G.fresh j H (.cells true 2 [.int .i64 0, .int .i64 0]) (.cells true 2 [.int .i64 u, .int .i64 w]) hI
  obtain ⟨c, hc1, hc2⟩ := G.loop _ _ hI2
  have l0 : loadA Try.prog 3 ((H.push (.cells true 2 [.int .i64 0, .int .i64 0])).set H.next (.cells true 2 [.int .i64 u, .int .i64 w])) H.next 0 = some (.int .i64 u) := by simp [loadA, get_set_self]
  have l1 : loadA Try.prog 37 ((H.push (.cells true 2 [.int .i64 0, .int .i64 0])).set H.next (.cells true 2 [.int .i64 u, .int .i64 w])) H.next 1 = some (.int .i64 w) := by simp [loadA, get_set_self]
  have w1 : IntKind.i64.wrap ((j : Int) + 1) = (j : Int) + 1 := wrapI (by omega) (by omega)
  have c1 : (j : Int) < (rows.length : Int) := by omega
  constructor
  · intro hs
    obtain ⟨H', hr, hI3⟩ := G.round j _ u w hI2 hrow hs
    generalize hrr : evCode Try.prog call lf 19 none (cAt Try.f52 pT) env [] H = out
    simp [pT, Try.f52, e0, e5, e6, e7, c1, hj, ix, lo, st, l0, l1, callA, hc1, hc2, hr, w1] at hrr
    subst hrr
    exact ⟨_, H', rfl, by simp [e0], by simp [e5], by simp [e6], by simp, hI3⟩
  · intro hs
    obtain ⟨H', hr, hJ⟩ := G.last j _ u w hI2 hrow hs
    generalize hrr : evCode Try.prog call lf 19 none (cAt Try.f52 pT) env [] H = out
    simp [pT, Try.f52, e0, e5, e6, e7, c1, hj, ix, lo, st, l0, l1, callA, hc1, hc2, hr, w1] at hrr
    subst hrr
    exact ⟨_, H', rfl, hJ⟩

theorem go_exit {call : CallF} {lf : Nat} {env : Env} {H : Heap} {n j : Nat} (hj : n ≤ j) (e6 : env.val 6 = .int .i64 n) (e7 : env.val 7 = .int .i64 j) :
    ∃ env', evCode Try.prog call lf 19 none (cAt Try.f52 pT) env [] H = some (.exit 0, env', [], H) := by
  have c1 : ¬ (j : Int) < (n : Int) := by omega
  have c2 : ¬ j < n := by omega
  generalize hr : evCode Try.prog call lf 19 none (cAt Try.f52 pT) env [] H = out
  simp [pT, Try.f52, e6, e7, c1, c2] at hr
  subst hr
  exact ⟨_, rfl⟩

theorem go_loop {call : CallF} {lf : Nat} {rows : List (List Value)} {br l stop : Nat} {I : Nat → Heap → Prop} {J : Heap → Prop} (G : GoingS call rows br l stop I J) (hrows : ∀ x ∈ rows, ∃ u w : Int, x = [.int .i64 u, .int .i64 w]) (hn : rows.length < 1099511627776) : ∀ (m j : Nat) (env : Env) (H : Heap), rows.length < m + j → j ≤ rows.length → (stop = 0 ∨ j < stop) → I j H →
    env.val 0 = .func (.yield l) #[] #[] → env.val 5 = .slice (some ⟨br, 0, none⟩) rows.length BIG → env.val 6 = .int .i64 rows.length → env.val 7 = .int .i64 j →
    ∃ env' H', evLoop Try.prog call lf 19 none (cAt Try.f52 pT) m env [] H = some (.exit 0, env', [], H') ∧ ((stop = 0 ∨ rows.length < stop) → I rows.length H') ∧ (stop ≠ 0 → stop ≤ rows.length → J H')
  | 0, j, env, H, hm, hj, _, _, _, _, _, _ => by omega
  | m + 1, j, env, H, hm, hj, hst, hI, e0, e5, e6, e7 => by
    by_cases hlt : j < rows.length
    · obtain ⟨q1, q2⟩ := go_round (lf := lf) G hI hrows hlt hn e0 e5 e6 e7
      by_cases hs : j + 1 = stop
      · obtain ⟨env', H', he, hJ⟩ := q2 hs
        simp only [evLoop_succ, he]
        exact ⟨env', H', rfl, fun h => by omega, fun _ _ => hJ⟩
      · obtain ⟨env', H', he, k0, k5, k6, k7, hI'⟩ := q1 hs
        simp only [evLoop_succ, he]
        exact go_loop G hrows hn m (j + 1) env' H' (by omega) (by omega) (by omega) hI' (k0.trans e0) (k5.trans e5) (k6.trans e6) k7
    · obtain ⟨env', he⟩ := go_exit (call := call) (lf := lf) (H := H) (by omega) e6 e7
      simp only [evLoop_succ, he]
      have : j = rows.length := by omega
      subst this
      exact ⟨env', H, rfl, fun _ => hI, fun h1 h2 => by omega⟩

/-- Rows, all or up to a stop. -/
theorem go_run {call : CallF} {lf : Nat} {rows : List (List Value)} {br bt l stop : Nat} {I : Nat → Heap → Prop} {J : Heap → Prop} {H : Heap} (G : GoingS call rows br l stop I J) (hrows : ∀ x ∈ rows, ∃ u w : Int, x = [.int .i64 u, .int .i64 w]) (hn : rows.length < 1099511627776) (hlf : rows.length < lf) (hI : I 0 H) (hbt : H.get bt = some (.cells true 1 [.slice (some ⟨br, 0, none⟩) rows.length BIG])) :
    ∃ H', evFn Try.prog call lf 52 [.func (.yield l) #[] #[], .pointer (some ⟨bt, 0, none⟩)] H = some (.ret (.tuple #[]), H') ∧ ((stop = 0 ∨ rows.length < stop) → I rows.length H') ∧ (stop ≠ 0 → stop ≤ rows.length → J H') := by
  have ld : loadA Try.prog 70 H bt 0 = some (.slice (some ⟨br, 0, none⟩) rows.length BIG) := by simp [loadA, hbt]
  have r0 : ∃ e, evCode Try.prog call lf 19 none (cAt Try.f52 [0, 1, 0]) (envOf 0 [.func (.yield l) #[] #[], .pointer (some ⟨bt, 0, none⟩)] .nil) [] H = some (.normal, e, [], H) ∧ e.val 0 = .func (.yield l) #[] #[] ∧ e.val 5 = .slice (some ⟨br, 0, none⟩) rows.length BIG ∧ e.val 6 = .int .i64 rows.length ∧ e.val 7 = .int .i64 ((0 : Nat) : Int) := by
    generalize hr : evCode Try.prog call lf 19 none (cAt Try.f52 [0, 1, 0]) (envOf 0 [.func (.yield l) #[] #[], .pointer (some ⟨bt, 0, none⟩)] .nil) [] H = out
    simp [Try.f52, Try.underlying70, ld] at hr
    subst hr
    exact ⟨_, rfl, by simp⟩
  obtain ⟨e, r0, v0, v5, v6, v7⟩ := r0
  obtain ⟨e', H', r1, hI'⟩ := go_loop (lf := lf) G hrows hn lf 0 e H (by omega) (by omega) (by omega) hI v0 v5 v6 v7
  refine ⟨H', ?_, hI'⟩
  rw [evFn_at Try.func52 body52 (by simp), Try.ntmps52, show cAt Try.f52 [] = .scope (.seq (.label 0) (.seq (cAt Try.f52 [0, 1, 0]) (.block 0 (.loop (cAt Try.f52 pT))))) from rfl, evCode_scope, evCode_seq, evCode_label]
  simp only
  rw [evCode_seq, r0]
  simp only
  rw [evCode_block, evCode_loop, r1]
  simp [fnEnd, Try.f52]

theorem go_run_nil {call : CallF} {lf : Nat} {bt l : Nat} {H : Heap} (hlf : 0 < lf) (hbt : H.get bt = some (.cells true 1 [.slice none 0 0])) :
    evFn Try.prog call lf 52 [.func (.yield l) #[] #[], .pointer (some ⟨bt, 0, none⟩)] H = some (.ret (.tuple #[]), H) := by
  have ld : loadA Try.prog 70 H bt 0 = some (.slice none 0 0) := by simp [loadA, hbt]
  have r0 : ∃ e, evCode Try.prog call lf 19 none (cAt Try.f52 [0, 1, 0]) (envOf 0 [.func (.yield l) #[] #[], .pointer (some ⟨bt, 0, none⟩)] .nil) [] H = some (.normal, e, [], H) ∧ e.val 6 = .int .i64 ((0 : Nat) : Int) ∧ e.val 7 = .int .i64 ((0 : Nat) : Int) := by
    generalize hr : evCode Try.prog call lf 19 none (cAt Try.f52 [0, 1, 0]) (envOf 0 [.func (.yield l) #[] #[], .pointer (some ⟨bt, 0, none⟩)] .nil) [] H = out
    simp [Try.f52, Try.underlying70, ld] at hr
    subst hr
    exact ⟨_, rfl, by simp⟩
  obtain ⟨e, r0, v6, v7⟩ := r0
  obtain ⟨m, rfl⟩ : ∃ m, lf = m + 1 := ⟨lf - 1, by omega⟩
  obtain ⟨e', r1⟩ := go_exit (call := call) (lf := m + 1) (H := H) (Nat.le_refl _) v6 v7
  rw [evFn_at Try.func52 body52 (by simp), Try.ntmps52, show cAt Try.f52 [] = .scope (.seq (.label 0) (.seq (cAt Try.f52 [0, 1, 0]) (.block 0 (.loop (cAt Try.f52 pT))))) from rfl, evCode_scope, evCode_seq, evCode_label]
  simp only
  rw [evCode_seq, r0]
  simp only
  rw [evCode_block, evCode_loop, evLoop_succ, r1]
  simp [fnEnd, Try.f52]

theorem gi_round {call : CallF} {lf : Nat} {rows : List (List Value)} {br l stop j : Nat} {I : Nat → Heap → Prop} {J : Heap → Prop} {env : Env} {H : Heap} (G : GoingS call rows br l stop I J) (hI : I j H) (hrows : ∀ x ∈ rows, ∃ u w : Int, x = [.int .i64 u, .int .i64 w]) (hj : j < rows.length) (hn : rows.length < 1099511627776)
    (e0 : env.val 0 = .func (.yield l) #[] #[]) (e5 : env.val 5 = .slice (some ⟨br, 0, none⟩) rows.length BIG) (e6 : env.val 6 = .int .i64 rows.length) (e7 : env.val 7 = .int .i64 j) :
    (j + 1 ≠ stop → ∃ env' H', evCode Try.prog call lf 19 none (cAt Try.f54 pT) env [] H = some (.normal, env', [], H') ∧ env'.val 0 = env.val 0 ∧ env'.val 5 = env.val 5 ∧ env'.val 6 = env.val 6 ∧ env'.val 7 = .int .i64 ((j + 1 : Nat) : Int) ∧ I (j + 1) H') ∧
    (j + 1 = stop → ∃ env' H', evCode Try.prog call lf 19 none (cAt Try.f54 pT) env [] H = some (.exit 0, env', [], H') ∧ J H') := by
  obtain ⟨row, hrow⟩ : ∃ r, rows[j]? = some r := ⟨_, List.getElem?_eq_getElem hj⟩
  obtain ⟨u, w, rfl⟩ := hrows row (List.mem_of_getElem? hrow)
  have hrd := rd_of_cells (G.tab j H hI) (fun x hx => by obtain ⟨u, w, rfl⟩ := hrows x hx; rfl)
  have ix := rdS_index hrd Try.underlying77 info80 size80 (n := (j : Int)) (by omega) (by omega)
  have lo := rdS_loadA hrd hrow (t := 80) info80 size80 Try.underlying80 rfl
  simp only [Int.toNat_natCast, blk, offs, Nat.zero_add] at ix lo
  have st := storeQ (H := H) (a := .int .i64 u) (b := .int .i64 w) (x := .int .i64 0) (y := .int .i64 0) rfl rfl 80 _ info80 size80
  have hI2 := G.fresh j H (.cells true 2 [.int .i64 0, .int .i64 0]) (.cells true 2 [.int .i64 u, .int .i64 w]) hI
  obtain ⟨c, hc1, hc2⟩ := G.loop _ _ hI2
  have l0 : loadA Try.prog 3 ((H.push (.cells true 2 [.int .i64 0, .int .i64 0])).set H.next (.cells true 2 [.int .i64 u, .int .i64 w])) H.next 0 = some (.int .i64 u) := by simp [loadA, get_set_self]
  have l1 : loadA Try.prog 3 ((H.push (.cells true 2 [.int .i64 0, .int .i64 0])).set H.next (.cells true 2 [.int .i64 u, .int .i64 w])) H.next 1 = some (.int .i64 w) := by simp [loadA, get_set_self]
  have w1 : IntKind.i64.wrap ((j : Int) + 1) = (j : Int) + 1 := wrapI (by omega) (by omega)
  have c1 : (j : Int) < (rows.length : Int) := by omega
  constructor
  · intro hs
    obtain ⟨H', hr, hI3⟩ := G.round j _ u w hI2 hrow hs
    generalize hrr : evCode Try.prog call lf 19 none (cAt Try.f54 pT) env [] H = out
    simp [pT, Try.f54, e0, e5, e6, e7, c1, hj, ix, lo, st, l0, l1, callA, hc1, hc2, hr, w1] at hrr
    subst hrr
    exact ⟨_, H', rfl, by simp [e0], by simp [e5], by simp [e6], by simp, hI3⟩
  · intro hs
    obtain ⟨H', hr, hJ⟩ := G.last j _ u w hI2 hrow hs
    generalize hrr : evCode Try.prog call lf 19 none (cAt Try.f54 pT) env [] H = out
    simp [pT, Try.f54, e0, e5, e6, e7, c1, hj, ix, lo, st, l0, l1, callA, hc1, hc2, hr, w1] at hrr
    subst hrr
    exact ⟨_, H', rfl, hJ⟩

theorem gi_exit {call : CallF} {lf : Nat} {env : Env} {H : Heap} {n j : Nat} (hj : n ≤ j) (e6 : env.val 6 = .int .i64 n) (e7 : env.val 7 = .int .i64 j) :
    ∃ env', evCode Try.prog call lf 19 none (cAt Try.f54 pT) env [] H = some (.exit 0, env', [], H) := by
  have c1 : ¬ (j : Int) < (n : Int) := by omega
  have c2 : ¬ j < n := by omega
  generalize hr : evCode Try.prog call lf 19 none (cAt Try.f54 pT) env [] H = out
  simp [pT, Try.f54, e6, e7, c1, c2] at hr
  subst hr
  exact ⟨_, rfl⟩

theorem gi_loop {call : CallF} {lf : Nat} {rows : List (List Value)} {br l stop : Nat} {I : Nat → Heap → Prop} {J : Heap → Prop} (G : GoingS call rows br l stop I J) (hrows : ∀ x ∈ rows, ∃ u w : Int, x = [.int .i64 u, .int .i64 w]) (hn : rows.length < 1099511627776) : ∀ (m j : Nat) (env : Env) (H : Heap), rows.length < m + j → j ≤ rows.length → (stop = 0 ∨ j < stop) → I j H →
    env.val 0 = .func (.yield l) #[] #[] → env.val 5 = .slice (some ⟨br, 0, none⟩) rows.length BIG → env.val 6 = .int .i64 rows.length → env.val 7 = .int .i64 j →
    ∃ env' H', evLoop Try.prog call lf 19 none (cAt Try.f54 pT) m env [] H = some (.exit 0, env', [], H') ∧ ((stop = 0 ∨ rows.length < stop) → I rows.length H') ∧ (stop ≠ 0 → stop ≤ rows.length → J H')
  | 0, j, env, H, hm, hj, _, _, _, _, _, _ => by omega
  | m + 1, j, env, H, hm, hj, hst, hI, e0, e5, e6, e7 => by
    by_cases hlt : j < rows.length
    · obtain ⟨q1, q2⟩ := gi_round (lf := lf) G hI hrows hlt hn e0 e5 e6 e7
      by_cases hs : j + 1 = stop
      · obtain ⟨env', H', he, hJ⟩ := q2 hs
        simp only [evLoop_succ, he]
        exact ⟨env', H', rfl, fun h => by omega, fun _ _ => hJ⟩
      · obtain ⟨env', H', he, k0, k5, k6, k7, hI'⟩ := q1 hs
        simp only [evLoop_succ, he]
        exact gi_loop G hrows hn m (j + 1) env' H' (by omega) (by omega) (by omega) hI' (k0.trans e0) (k5.trans e5) (k6.trans e6) k7
    · obtain ⟨env', he⟩ := gi_exit (call := call) (lf := lf) (H := H) (by omega) e6 e7
      simp only [evLoop_succ, he]
      have : j = rows.length := by omega
      subst this
      exact ⟨env', H, rfl, fun _ => hI, fun h1 h2 => by omega⟩

/-- Rows, all or up to a stop. -/
theorem gi_run {call : CallF} {lf : Nat} {rows : List (List Value)} {br bt l stop : Nat} {I : Nat → Heap → Prop} {J : Heap → Prop} {H : Heap} (G : GoingS call rows br l stop I J) (hrows : ∀ x ∈ rows, ∃ u w : Int, x = [.int .i64 u, .int .i64 w]) (hn : rows.length < 1099511627776) (hlf : rows.length < lf) (hI : I 0 H) (hbt : H.get bt = some (.cells true 1 [.slice (some ⟨br, 0, none⟩) rows.length BIG])) :
    ∃ H', evFn Try.prog call lf 54 [.func (.yield l) #[] #[], .pointer (some ⟨bt, 0, none⟩)] H = some (.ret (.tuple #[]), H') ∧ ((stop = 0 ∨ rows.length < stop) → I rows.length H') ∧ (stop ≠ 0 → stop ≤ rows.length → J H') := by
  have ld : loadA Try.prog 77 H bt 0 = some (.slice (some ⟨br, 0, none⟩) rows.length BIG) := by simp [loadA, hbt]
  have r0 : ∃ e, evCode Try.prog call lf 19 none (cAt Try.f54 [0, 1, 0]) (envOf 0 [.func (.yield l) #[] #[], .pointer (some ⟨bt, 0, none⟩)] .nil) [] H = some (.normal, e, [], H) ∧ e.val 0 = .func (.yield l) #[] #[] ∧ e.val 5 = .slice (some ⟨br, 0, none⟩) rows.length BIG ∧ e.val 6 = .int .i64 rows.length ∧ e.val 7 = .int .i64 ((0 : Nat) : Int) := by
    generalize hr : evCode Try.prog call lf 19 none (cAt Try.f54 [0, 1, 0]) (envOf 0 [.func (.yield l) #[] #[], .pointer (some ⟨bt, 0, none⟩)] .nil) [] H = out
    simp [Try.f54, Try.underlying77, ld] at hr
    subst hr
    exact ⟨_, rfl, by simp⟩
  obtain ⟨e, r0, v0, v5, v6, v7⟩ := r0
  obtain ⟨e', H', r1, hI'⟩ := gi_loop (lf := lf) G hrows hn lf 0 e H (by omega) (by omega) (by omega) hI v0 v5 v6 v7
  refine ⟨H', ?_, hI'⟩
  rw [evFn_at Try.func54 body54 (by simp), Try.ntmps54, show cAt Try.f54 [] = .scope (.seq (.label 0) (.seq (cAt Try.f54 [0, 1, 0]) (.block 0 (.loop (cAt Try.f54 pT))))) from rfl, evCode_scope, evCode_seq, evCode_label]
  simp only
  rw [evCode_seq, r0]
  simp only
  rw [evCode_block, evCode_loop, r1]
  simp [fnEnd, Try.f54]

theorem gi_run_nil {call : CallF} {lf : Nat} {bt l : Nat} {H : Heap} (hlf : 0 < lf) (hbt : H.get bt = some (.cells true 1 [.slice none 0 0])) :
    evFn Try.prog call lf 54 [.func (.yield l) #[] #[], .pointer (some ⟨bt, 0, none⟩)] H = some (.ret (.tuple #[]), H) := by
  have ld : loadA Try.prog 77 H bt 0 = some (.slice none 0 0) := by simp [loadA, hbt]
  have r0 : ∃ e, evCode Try.prog call lf 19 none (cAt Try.f54 [0, 1, 0]) (envOf 0 [.func (.yield l) #[] #[], .pointer (some ⟨bt, 0, none⟩)] .nil) [] H = some (.normal, e, [], H) ∧ e.val 6 = .int .i64 ((0 : Nat) : Int) ∧ e.val 7 = .int .i64 ((0 : Nat) : Int) := by
    generalize hr : evCode Try.prog call lf 19 none (cAt Try.f54 [0, 1, 0]) (envOf 0 [.func (.yield l) #[] #[], .pointer (some ⟨bt, 0, none⟩)] .nil) [] H = out
    simp [Try.f54, Try.underlying77, ld] at hr
    subst hr
    exact ⟨_, rfl, by simp⟩
  obtain ⟨e, r0, v6, v7⟩ := r0
  obtain ⟨m, rfl⟩ : ∃ m, lf = m + 1 := ⟨lf - 1, by omega⟩
  obtain ⟨e', r1⟩ := gi_exit (call := call) (lf := m + 1) (H := H) (Nat.le_refl _) v6 v7
  rw [evFn_at Try.func54 body54 (by simp), Try.ntmps54, show cAt Try.f54 [] = .scope (.seq (.label 0) (.seq (cAt Try.f54 [0, 1, 0]) (.block 0 (.loop (cAt Try.f54 pT))))) from rfl, evCode_scope, evCode_seq, evCode_label]
  simp only
  rw [evCode_seq, r0]
  simp only
  rw [evCode_block, evCode_loop, evLoop_succ, r1]
  simp [fnEnd, Try.f54]
end Go.Proofs.Ytpopkajkekceiaa

namespace Go.Proofs.Ytpopkajkekceiaa
open Go Go.Abs
set_option maxRecDepth 100000
set_option linter.unusedSimpArgs false
set_option linter.unusedVariables false

/-! ### The reference's Right (41) -/
def okP (f : FunD) : Bool := match placesL f with
  | .ok _ => true
  | .error _ => false
theorem okP_ok {f : FunD} {ps : List Pl} (h : lookedL f = .ok ps) : okP f = true := by
  obtain ⟨rs, e, _⟩ := (looked_eq f).1 ps h
  unfold okP; rw [e]
theorem okP_error {f : FunD} {i : Nat} (h : lookedL f = .error i) : okP f = false := by
  have e := (looked_eq f).2 i h
  unfold okP; rw [e]

/-- Right. -/
noncomputable def rightC : Contract Try.prog := Contract.plain 41
  (fun args H => match args with
    | [v] => (rdFit H v).map fun f => .ret (.bool (okP f))
    | _ => none) (by
    intro args H res hw hr
    split at hr
    · rename_i v
      obtain ⟨f, hf, rfl⟩ := Option.map_eq_some_iff.1 hr
      obtain ⟨h1, h2⟩ := rdFit_inv hf
      obtain ⟨s, rfl, hs, _, _⟩ := rdFun_cells h1
      have hx := Ext.push hw (.cells true 2 [.int .i64 f.params, s])
      have ld : loadA Try.prog 24 (H.push (.cells true 2 [.int .i64 f.params, s])) H.next 0 = some (.agg #[.int .i64 f.params, s]) := by
        simp [loadA, get_push_self]
      obtain ⟨g1, g2⟩ := places_run (lf := roomOf f) (hw.push (.cells true 2 [.int .i64 f.params, s])) (rdFun_ext hx h1) h2 (roomOf_node f).1 (roomOf_node f).2
      cases hp : placesL f with
      | error i =>
        obtain ⟨H', e1, e2⟩ := g1 i hp
        have hc := (with_31 (lf := roomOf f)).trans e1
        refine ⟨rfl, evWith Try.prog (roomOf f) cR 1, H', evWith_ok _ _ _, 0, ?_, hx.trans e2⟩
        generalize evWith Try.prog (roomOf f) cR 1 = call at hc
        simp [Try.f41, hs, ld, callA, hc, okP, hp]
      | ok ps =>
        obtain ⟨b1, H', e1, e2, _⟩ := g2 ps hp
        have hc := (with_31 (lf := roomOf f)).trans e1
        refine ⟨rfl, evWith Try.prog (roomOf f) cR 1, H', evWith_ok _ _ _, 0, ?_, hx.trans e2⟩
        generalize evWith Try.prog (roomOf f) cR 1 = call at hc
        simp [Try.f41, hs, ld, callA, hc, okP, hp]
    · cases hr)
theorem right_hit {cs : List (Contract Try.prog)} {H : Heap} {v : Value} {f : FunD} (h : rdFit H v = some f) : callOf (rightC :: cs) (.fn 41 [v]) H = some (.ret (.bool (okP f)), H) :=
  callOf_hit rfl (by simp [rightC, Contract.plain, h])
end Go.Proofs.Ytpopkajkekceiaa

namespace Go.Proofs.Ytpopkajkekceiaa
open Go Go.Abs
set_option maxRecDepth 100000
set_option linter.unusedSimpArgs false
set_option linter.unusedVariables false

/-! ### The reference's done (42) -/
def pDn : List Nat := [1, 1, 0, 1, 0, 0]

theorem dn_exit {call : CallF} {lf : Nat} {env : Env} {H : Heap} {b2 i k : Nat} {s l : Value} {ks : List Int} (e1 : env.val 1 = .int .i64 i) (e2 : env.val 2 = .pointer (some ⟨b2, 0, none⟩)) (e6 : env.val 6 = .int .i64 k) (ld : loadA Try.prog 22 H b2 1 = some s)
    (ix : indexAddrA Try.prog 22 s i = some (.pointer (some ⟨blk s, offs s + i * 3, none⟩))) (lo : loadA Try.prog 38 H (blk s) (offs s + i * 3 + 2) = some l) (hl : rdInts H .i64 l = some ks) (hk : ks.length ≤ k) :
    ∃ env', evCode Try.prog call lf 35 none (cAt Try.f42 pDn) env [] H = some (.exit 0, env', [], H) ∧ env'.val 1 = env.val 1 ∧ env'.val 5 = env.val 5 := by
  have c1 : ¬ (k : Int) < (ks.length : Int) := by omega
  have hb := len_of (H' := H) (P := Try.prog) (t := 38) (rdInts_rd hl) Try.underlying38
  simp only [List.length_map] at hb
  generalize hr : evCode Try.prog call lf 35 none (cAt Try.f42 pDn) env [] H = out
  simp [pDn, Try.f42, e1, e2, e6, ld, ix, lo, hb, c1] at hr
  subst hr
  exact ⟨_, rfl, by simp [e1], by simp⟩

theorem dn_step {call : CallF} {lf : Nat} {env : Env} {H H' H2 : Heap} {b2 i k : Nat} {v s l v5 w v5' : Value} {ks : List Int} {c : Int} (e1 : env.val 1 = .int .i64 i) (e2 : env.val 2 = .pointer (some ⟨b2, 0, none⟩)) (e5 : env.val 5 = v5) (e6 : env.val 6 = .int .i64 k) (ld : loadA Try.prog 22 H b2 1 = some s) (ldv : loadA Try.prog 24 H b2 0 = some v)
    (ix : indexAddrA Try.prog 22 s i = some (.pointer (some ⟨blk s, offs s + i * 3, none⟩))) (lo : loadA Try.prog 38 H (blk s) (offs s + i * 3 + 2) = some l) (hl : rdInts H .i64 l = some ks) (hc : ks[k]? = some c) (hn : ks.length ≤ 1073741824)
    (hcall : call (.fn 42 [v, .int .i64 c]) H = some (.ret w, H')) (ap : builtinA Try.prog .append #[38, 38] [v5, w] H' = some (.val v5', H2)) :
    ∃ env', evCode Try.prog call lf 35 none (cAt Try.f42 pDn) env [] H = some (.normal, env', [], H2) ∧ env'.val 1 = env.val 1 ∧ env'.val 2 = env.val 2 ∧ env'.val 5 = v5' ∧ env'.val 6 = .int .i64 ((k + 1 : Nat) : Int) := by
  have hk := (List.getElem?_eq_some_iff.1 hc).1
  have c1 : (k : Int) < (ks.length : Int) := by omega
  have w1 : IntKind.i64.wrap ((k : Int) + 1) = (k : Int) + 1 := wrapI (by omega) (by omega)
  have hb := len_of (H' := H) (P := Try.prog) (t := 38) (rdInts_rd hl) Try.underlying38
  simp only [List.length_map] at hb
  obtain ⟨iy, ly⟩ := rdInts_at hl hc Try.underlying38 info3 rfl Try.underlying3 rfl
  generalize hr : evCode Try.prog call lf 35 none (cAt Try.f42 pDn) env [] H = out
  simp [pDn, Try.f42, e1, e2, e6, ld, ix, lo, hb, c1] at hr
  rw [evDraw_tab (tab := [])] at hr
  · simp [e1, e2, e5, e6, ld, ldv, ix, lo, iy, ly, callA, hcall, ap, w1] at hr
    subst hr
    exact ⟨_, rfl, by simp [e1], by simp [e2], by simp, by simp⟩
  · kernel_rfl
  · kernel_rfl

/-- A row that grows: nothing yet, or what it says in a block that is new. -/
def growI (lo : Nat) (H : Heap) (xs : List Int) (v : Value) : Prop := (xs = [] ∧ v = .slice none 0 0) ∨ ∃ b, v = .slice (some ⟨b, 0, none⟩) xs.length BIG ∧ H.get b = some (.cells true 1 (intsV xs)) ∧ lo ≤ b ∧ b < H.next
theorem growI.keep {lo : Nat} {H K : Heap} {xs : List Int} {v : Value} (h : growI lo H xs v) (hk : Kept H K none) : growI lo K xs v := by
  rcases h with h | ⟨b, h1, h2, h3, h4⟩
  · exact .inl h
  · exact .inr ⟨b, h1, by rw [hk.get b h4 (by simp)]; exact h2, h3, Nat.lt_of_lt_of_le h4 hk.le⟩
theorem growI.row {lo : Nat} {H : Heap} {xs : List Int} {v : Value} (h : growI lo H xs v) : rowI 1 lo H (intsC xs) v := by
  rcases h with ⟨rfl, rfl⟩ | ⟨b, h1, h2, h3, h4⟩
  · exact .inl ⟨rfl, rfl⟩
  · exact .inr ⟨b, BIG, by rw [h1]; simp [intsC], by rw [h2, intsC_flat]; rfl, h3, h4, .inr rfl⟩
theorem growI.low {lo lo' : Nat} {H : Heap} {xs : List Int} {v : Value} (h : growI lo H xs v) (hl : lo' ≤ lo) : growI lo' H xs v := by
  rcases h with h | ⟨b, h1, h2, h3, h4⟩
  · exact .inl h
  · exact .inr ⟨b, h1, h2, by omega, h4⟩

theorem grow_app {lo : Nat} {H0 H : Heap} {xs ys : List Int} {v x : Value} (hw : H.Wf) (h0 : Kept H0 H none) (hv : growI lo H xs v) (hlo : H0.next ≤ lo) (hll : lo ≤ H.next) (hx : rdInts H .i64 x = some ys) (hne : 0 < ys.length) (hn : xs.length + ys.length ≤ 1073741824) :
    ∃ v' H', builtinA Try.prog .append #[38, 38] [v, x] H = some (.val v', H') ∧ Kept H0 H' none ∧ growI lo H' (xs ++ ys) v' := by
  have hv' : (xs.length = 0 ∧ v = .slice none 0 0 ∧ intsV xs = []) ∨ ∃ b, v = .slice (some ⟨b, 0, none⟩) xs.length BIG ∧ H.get b = some (.cells true Try.t3.size (intsV xs)) := by
    rw [size3]
    rcases hv with ⟨rfl, rfl⟩ | ⟨b, h1, h2, _, _⟩
    · exact .inl ⟨rfl, rfl, rfl⟩
    · exact .inr ⟨b, h1, h2⟩
  obtain ⟨H', ap, g1, k2, hlt⟩ := app_big (P := Try.prog) (t := 38) elem38 zero3 (by decide) (by rw [size3]; omega) (by rw [size3]; rfl) hw hv' (by rw [size3]; simp [intsV]) (xs := ys.map fun n => [.int .i64 n]) (by rw [size3]; exact rdInts_rd hx) (by simpa using hn) (by rw [List.all_eq_true]; intro x hx; obtain ⟨y, hy, hxy⟩ := List.mem_flatten.1 hx; obtain ⟨z, _, rfl⟩ := List.mem_map.1 hy; rcases List.mem_singleton.1 hxy with rfl; rfl) (by simpa using hne)
  have hfl : intsV xs ++ (ys.map fun n => [Value.int .i64 n]).flatten = intsV (xs ++ ys) := by
    have := intsC_flat ys
    unfold intsC at this
    rw [this]; simp [intsV]
  refine ⟨_, H', ap, h0.drop k2 (fun b hb => ?_), .inr ⟨H.next, by simp, by rw [g1, size3, hfl], hll, hlt⟩⟩
  rcases hv with ⟨_, rfl⟩ | ⟨b', h1, _, h3, _⟩
  · cases hb
  · rw [h1] at hb; cases hb; show H0.next ≤ b'; omega

/-- The loop of done. -/
theorem dn_loop {call : CallF} {lf : Nat} {H0 : Heap} {v s l : Value} {f : FunD} {b2 i lo : Nat} {ks : List Nat} {P : Nat → List Nat} (hw0 : H0.Wf) (hf : rdFit H0 v = some f) (g2 : H0.get b2 = some (.cells true 2 [.int .i64 f.params, s])) (hv : v = .agg #[.int .i64 f.params, s])
    (ix : indexAddrA Try.prog 22 s i = some (.pointer (some ⟨blk s, offs s + i * 3, none⟩))) (lo' : ∀ K, Kept H0 K none → loadA Try.prog 38 K (blk s) (offs s + i * 3 + 2) = some l) (hl : rdInts H0 .i64 l = some (natsL ks)) (hn : ks.length ≤ 1073741824)
    (hcall : ∀ c ∈ ks, ∀ K, K.Wf → rdFit K v = some f → ∃ w K', call (.fn 42 [v, .int .i64 (c : Int)]) K = some (.ret w, K') ∧ Kept K K' none ∧ growI K.next K' (natsL (P c)) w ∧ 0 < (P c).length) (hlo : H0.next ≤ lo) :
    ∀ (d k m : Nat) (env : Env) (K : Heap) (acc : List Nat) (v5 : Value), d < m → ks.length = k + d → acc.length + ((ks.drop k).flatMap P).length ≤ 1073741824 → K.Wf → Kept H0 K none → lo ≤ K.next → growI lo K (natsL acc) v5 →
    env.val 1 = .int .i64 i → env.val 2 = .pointer (some ⟨b2, 0, none⟩) → env.val 5 = v5 → env.val 6 = .int .i64 k →
    ∃ env' K' v5', evLoop Try.prog call lf 35 none (cAt Try.f42 pDn) m env [] K = some (.exit 0, env', [], K') ∧ env'.val 1 = env.val 1 ∧ env'.val 5 = v5' ∧ K'.Wf ∧ Kept H0 K' none ∧ lo ≤ K'.next ∧ growI lo K' (natsL (acc ++ (ks.drop k).flatMap P)) v5'
  | d, k, 0, env, K, acc, v5, hm, _, _, _, _, _, _, _, _, _, _ => by omega
  | 0, k, m + 1, env, K, acc, v5, hm, hd, _, kw, hk, hll, hg, e1, e2, e5, e6 => by
    have q2 := hk.of_get hw0 g2 (by simp)
    obtain ⟨env', he, u1, u5⟩ := dn_exit (call := call) (lf := lf) e1 e2 e6 (by simp [loadA, q2]) ix (lo' K hk) (rdInts_ext (hk.ext hw0) hl) (by simp [natsL]; omega)
    simp only [evLoop_succ, he]
    rw [List.drop_eq_nil_of_le (by omega), List.flatMap_nil, List.append_nil]
    exact ⟨env', K, v5, rfl, u1, u5.trans e5, kw, hk, hll, hg⟩
  | d + 1, k, m + 1, env, K, acc, v5, hm, hd, hb, kw, hk, hll, hg, e1, e2, e5, e6 => by
    have q2 := hk.of_get hw0 g2 (by simp)
    have hx := List.getElem?_eq_getElem (l := ks) (i := k) (by omega)
    have hdr := List.drop_eq_getElem_cons (l := ks) (i := k) (by omega)
    rw [hdr, List.flatMap_cons, List.length_append] at hb
    obtain ⟨w, K1, c1, kk, hgw, hpos⟩ := hcall _ (List.getElem_mem (l := ks) (n := k) (by omega)) K kw (rdFit_ext (hk.ext hw0) hf)
    have hg1 := hg.keep kk
    obtain ⟨v5', K2, ap, k2, hg2⟩ := grow_app kk.wf (hk.trans kk) hg1 hlo (Nat.le_trans hll kk.le) hgw.row.ints (by simpa [natsL] using hpos) (by simp [natsL]; omega)
    have hkc : (natsL ks)[k]? = some ((ks[k]'(by omega) : Nat) : Int) := by simp [natsL, hx]
    obtain ⟨env', he, u1, u2, u5, u6⟩ := dn_step (call := call) (lf := lf) (v := v) e1 e2 e5 e6 (by simp [loadA, q2]) (by rw [hv]; simp [loadA, q2]) ix (lo' K hk) (rdInts_ext (hk.ext hw0) hl) hkc (by simpa [natsL] using hn) c1 ap
    have hle : lo ≤ K2.next := by
      rcases hg2 with ⟨h, _⟩ | ⟨b, _, _, h3, h4⟩
      · exfalso; have := congrArg List.length h; rw [List.length_append, List.length_nil] at this; simp only [natsL, List.length_map] at this; omega
      · omega
    have happ : natsL acc ++ natsL (P (ks[k]'(by omega))) = natsL (acc ++ P (ks[k]'(by omega))) := by simp [natsL]
    rw [happ] at hg2
    obtain ⟨e', K3, v6, r, j1, j5, rest⟩ := dn_loop (lo := lo) hw0 hf g2 hv ix lo' hl hn hcall hlo d (k + 1) m env' K2 (acc ++ P (ks[k]'(by omega))) v5' (by omega) (by omega) (by rw [List.length_append]; omega) k2.wf k2 hle hg2 (u1.trans e1) (u2.trans e2) u5 u6
    simp only [evLoop_succ, he]
    rw [hdr, List.flatMap_cons, ← List.append_assoc]
    exact ⟨e', K3, v6, r, j1.trans u1, j5, rest⟩
end Go.Proofs.Ytpopkajkekceiaa

namespace Go.Proofs.Ytpopkajkekceiaa
open Go Go.Abs
set_option maxRecDepth 100000
set_option linter.unusedSimpArgs false
set_option linter.unusedVariables false

theorem kids_nats {f : FunD} {ps : List Pl} (hps : lookedL f = .ok ps) {a : Nat} {x : NodeD} (hxa : f.nodes[a]? = some x) : x.l = natsL (kidsOf f a) := by
  obtain ⟨tI, _⟩ := ti_looked hps
  have han := (List.getElem?_eq_some_iff.1 hxa).1
  unfold kidsOf natsL
  rw [hxa]
  simp only [List.map_map]
  have : x.l.map ((fun (n : Nat) => (n : Int)) ∘ Int.toNat) = x.l.map id := by
    refine List.map_congr_left fun c hc => ?_
    obtain ⟨k, hk, rfl⟩ := List.mem_iff_getElem.1 hc
    obtain ⟨j, _, e1, _⟩ := tI.kid a x hxa k _ (List.getElem?_eq_getElem hk) (.inl han)
    simp only [Function.comp, id]
    omega
  rw [this, List.map_id]

theorem with_42 {lf k : Nat} {args : List Value} {H : Heap} : evWith Try.prog lf [rightC] (k + 1) (.fn 42 args) H = evFn Try.prog (evWith Try.prog lf [rightC] k) lf 42 args H := by
  have : callOf [rightC] (.fn 42 args) H = none := by
    rw [callOf_miss (by decide)]
    rfl
  simp only [evWith, this]
  rfl

/-- done. -/
theorem done_run {lf : Nat} {v : Value} {f : FunD} {ps : List Pl} (hps : lookedL f = .ok ps) (hlf : ∀ x ∈ f.nodes, x.l.length < lf) : ∀ (k i : Nat) (K : Heap), i < f.nodes.length → f.nodes.length - i ≤ k → K.Wf → rdFit K v = some f → (post (kidsOf f) f.nodes.length i).length ≤ 100000 →
    ∃ w K', evWith Try.prog lf [rightC] k (.fn 42 [v, .int .i64 (i : Int)]) K = some (.ret w, K') ∧ Kept K K' none ∧ growI K.next K' (natsL (post (kidsOf f) f.nodes.length i)) w ∧ 0 < (post (kidsOf f) f.nodes.length i).length
  | 0, i, K, hi, hk, _, _, _ => by omega
  | k + 1, i, K, hi, hk, hw, hf, hlen => by
    have hT := tree_of hps
    have hpe := post_eq hT.up hi
    obtain ⟨s, cs, rfl, os, ns⟩ := rdFun_nodes (rdFit_inv hf).1
    have hx := List.getElem?_eq_getElem hi
    obtain ⟨l, c1, c2⟩ := ns.2.2 i _ hx
    rw [kids_nats hps hx] at c2
    have hkl : (kidsOf f i).length < lf := by
      have := hlf _ (List.getElem_mem (l := f.nodes) (n := i) hi)
      rw [kids_nats hps hx] at this
      simpa [natsL] using this
    have ix := rdS_index ns.1 Try.underlying22 info40 size40 (n := (i : Int)) (by omega) (by rw [ns.2.1]; omega)
    simp only [Int.toNat_natCast] at ix
    have kk := (Kept.refl hw none).push (.cells true 2 [.int .i64 f.params, s])
    have g2 := get_push_self K (.cells true 2 [.int .i64 f.params, s])
    have hf1 := rdFit_ext (kk.ext hw) hf
    have n1 := ns.ext (kk.ext hw)
    have hnx : (K.push (.cells true 2 [.int .i64 f.params, s])).next = K.next + 1 := rfl
    have hlo : ∀ K', Kept (K.push (.cells true 2 [.int .i64 f.params, s])) K' none → loadA Try.prog 38 K' (blk s) (offs s + i * 3 + 2) = some l := fun K' h =>
      rdS_load (rdS_ext (h.ext kk.wf) n1.1) c1 (k := 2) (u := l) rfl info38 Try.underlying38 (t := 38) rfl
    rw [with_42]
    generalize hcallE : evWith Try.prog lf [rightC] k = call
    have hcall : ∀ c ∈ kidsOf f i, ∀ K', K'.Wf → rdFit K' (.agg #[.int .i64 f.params, s]) = some f → ∃ w K'', call (.fn 42 [.agg #[.int .i64 f.params, s], .int .i64 (c : Int)]) K' = some (.ret w, K'') ∧ Kept K' K'' none ∧ growI K'.next K'' (natsL (post (kidsOf f) f.nodes.length c)) w ∧ 0 < (post (kidsOf f) f.nodes.length c).length := by
      intro c hc K' hw' hf'
      obtain ⟨h1, h2⟩ := hT.up i c hc
      have := post_len hT.up hi hc
      rw [← hcallE]
      exact done_run hps hlf k c K' h2 (by omega) hw' hf' (by omega)
    generalize hH : K.push (.cells true 2 [.int .i64 f.params, s]) = K1 at *
    generalize hE : evFn Try.prog call lf 42 [.agg #[.int .i64 f.params, s], .int .i64 (i : Int)] K = out
    have hr := hE
    simp [Try.f42, os, hH] at hr
    generalize hL : evLoop _ _ _ _ _ _ _ _ _ _ = L at hr
    have aux : ∀ env, evLoop Try.prog call lf 35 none (cAt Try.f42 pDn) lf env [] K1 = L → env.val 1 = .int .i64 i → env.val 2 = .pointer (some ⟨K.next, 0, none⟩) → env.val 5 = .slice none 0 0 → env.val 6 = .int .i64 (0 : Nat) →
        ∃ env' K' v5', L = some (.exit 0, env', [], K') ∧ env'.val 1 = .int .i64 i ∧ env'.val 5 = v5' ∧ K'.Wf ∧ Kept K1 K' none ∧ K1.next ≤ K'.next ∧ growI K1.next K' (natsL ((kidsOf f i).flatMap (post (kidsOf f) f.nodes.length))) v5' := by
      intro env hL e1 e2 e5 e6
      have hlen2 : ((kidsOf f i).flatMap (post (kidsOf f) f.nodes.length)).length ≤ 100000 := by
        rw [hpe, List.length_append] at hlen; omega
      have hkn : (kidsOf f i).length ≤ 1073741824 := by
        have : ∀ (l : List Nat), (∀ c ∈ l, 0 < (post (kidsOf f) f.nodes.length c).length) → l.length ≤ (l.flatMap (post (kidsOf f) f.nodes.length)).length := by
          intro l
          induction l with
          | nil => intro _; simp
          | cons c l ih =>
            intro h
            have h1 := h c (by simp)
            have h2 := ih fun d hd => h d (by simp [hd])
            rw [List.flatMap_cons, List.length_append, List.length_cons]; omega
        have := this (kidsOf f i) fun c hc => by
          have hcn := (hT.up i c hc).2
          rw [post_eq hT.up hcn]; simp
        omega
      obtain ⟨env', K', v5', h1, h2, h3, h4⟩ := dn_loop (call := call) (lf := lf) (P := post (kidsOf f) f.nodes.length) (lo := K1.next) kk.wf hf1 g2 rfl ix hlo (rdInts_ext (kk.ext hw) c2) hkn hcall (Nat.le_refl _) (kidsOf f i).length 0 lf env K1 [] _ hkl (by omega) (by simp only [List.drop_zero, List.length_nil]; omega) kk.wf (Kept.refl kk.wf none) (Nat.le_refl _) (.inl ⟨rfl, rfl⟩) e1 e2 e5 e6
      exact ⟨env', K', v5', hL.symm.trans h1, h2.trans e1, h3, by simpa using h4⟩
    obtain ⟨env', K3, v5', rfl, u1, u5, kw, k3, hle, hg⟩ := aux _ hL (by simp) (by simp) (by simp) (by simp)
    -- the node itself
    have hb : buildSliceA Try.prog 38 1 [(0, .int .i64 (i : Int))] K3 = some (.slice (some ⟨K3.next, 0, none⟩) 1 1, K3.push (.cells true 1 [.int .i64 (i : Int)])) := by rfl
    have k4 := (Kept.refl kw none).push (.cells true 1 [.int .i64 (i : Int)])
    have hx1 : rdInts (K3.push (.cells true 1 [.int .i64 (i : Int)])) .i64 (.slice (some ⟨K3.next, 0, none⟩) 1 1) = some [(i : Int)] := by
      refine rdInts_of ?_
      simp only [rdS, get_push_self]
      rw [if_pos ⟨by decide, by simp⟩]
      rfl
    have hlen3 : ((kidsOf f i).flatMap (post (kidsOf f) f.nodes.length)).length ≤ 100000 := by
      rw [hpe, List.length_append] at hlen; omega
    obtain ⟨w, K5, ap, k5, hg5⟩ := grow_app (H0 := K) k4.wf ((kk.trans k3).trans k4) (hg.keep k4) (by omega) (by have := k4.le; omega) hx1 (by simp) (by simp only [natsL, List.length_map, List.length_cons, List.length_nil]; omega)
    refine ⟨w, K5, ?_, k5, ?_, by rw [hpe]; simp⟩
    · simpa [u1, u5, hb, ap] using hr.symm
    · rw [hpe]
      have : natsL ((kidsOf f i).flatMap (post (kidsOf f) f.nodes.length) ++ [i]) = natsL ((kidsOf f i).flatMap (post (kidsOf f) f.nodes.length)) ++ [(i : Int)] := by simp [natsL]
      rw [this]
      exact hg5.low (by omega)
end Go.Proofs.Ytpopkajkekceiaa

namespace Go.Proofs.Ytpopkajkekceiaa
open Go Go.Abs
set_option maxRecDepth 100000
set_option linter.unusedSimpArgs false
set_option linter.unusedVariables false

/-- The reference's order. -/
def ordL (f : FunD) : List Nat := if okP f = true then post (kidsOf f) f.nodes.length 0 else []

noncomputable def call24 (lf : Nat) : Nat → CallF := evWith Try.prog lf [rightC]

theorem reforder_run {lf k : Nat} {v : Value} {f : FunD} {K : Heap} (hw : K.Wf) (hf : rdFit K v = some f) (hlf : ∀ x ∈ f.nodes, x.l.length < lf) (hk : f.nodes.length ≤ k) (hlen : ∀ ps, lookedL f = .ok ps → 0 < f.nodes.length ∧ (post (kidsOf f) f.nodes.length 0).length ≤ 100000) :
    ∃ w K', evFn Try.prog (evWith Try.prog lf [rightC] k) lf 24 [v] K = some (.ret w, K') ∧ Kept K K' none ∧ growI K.next K' (natsL (ordL f)) w := by
  obtain ⟨s, cs, rfl, os, ns⟩ := rdFun_nodes (rdFit_inv hf).1
  have kk := (Kept.refl hw none).push (.cells true 2 [.int .i64 f.params, s])
  have g2 := get_push_self K (.cells true 2 [.int .i64 f.params, s])
  have hf1 := rdFit_ext (kk.ext hw) hf
  have ld : loadA Try.prog 24 (K.push (.cells true 2 [.int .i64 f.params, s])) K.next 0 = some (.agg #[.int .i64 f.params, s]) := by simp [loadA, g2]
  have c41 : evWith Try.prog lf [rightC] k (.fn 41 [.agg #[.int .i64 f.params, s]]) (K.push (.cells true 2 [.int .i64 f.params, s])) = some (.ret (.bool (okP f)), K.push (.cells true 2 [.int .i64 f.params, s])) := by
    cases k with
    | zero => exact right_hit hf1
    | succ k => simp only [evWith, right_hit hf1]
  cases hl : lookedL f with
  | error i =>
    have ho := okP_error hl
    rw [ho] at c41
    refine ⟨.slice none 0 0, _, ?_, kk, .inl ⟨by simp [ordL, ho, natsL], rfl⟩⟩
    generalize evWith Try.prog lf [rightC] k = call at c41
    simp [Try.f24, os, ld, callA, c41]
  | ok ps =>
    have ho := okP_ok hl
    rw [ho] at c41
    obtain ⟨h0, h1⟩ := hlen ps hl
    obtain ⟨w, K', c42, k2, hg, _⟩ := done_run hl hlf k 0 _ h0 (by omega) kk.wf hf1 h1
    refine ⟨w, K', ?_, kk.trans k2, ?_⟩
    · generalize evWith Try.prog lf [rightC] k = call at c41 c42
      simp only [Int.natCast_zero] at c42
      simp [Try.f24, os, ld, callA, c41, c42]
    · simp only [ordL, ho, if_true]
      exact hg.low (by simp)

/-! ### Rows of pairs -/
def pairC (p : Int × Int) : List Value := [.int .i64 p.1, .int .i64 p.2]
def growP (lo : Nat) (H : Heap) (xs : List (Int × Int)) (v : Value) : Prop := (xs = [] ∧ v = .slice none 0 0) ∨ ∃ b, v = .slice (some ⟨b, 0, none⟩) xs.length BIG ∧ H.get b = some (.cells true 2 (xs.map pairC).flatten) ∧ lo ≤ b ∧ b < H.next
theorem growP.keep {lo : Nat} {H K : Heap} {xs : List (Int × Int)} {v : Value} (h : growP lo H xs v) (hk : Kept H K none) : growP lo K xs v := by
  rcases h with h | ⟨b, h1, h2, h3, h4⟩
  · exact .inl h
  · exact .inr ⟨b, h1, by rw [hk.get b h4 (by simp)]; exact h2, h3, Nat.lt_of_lt_of_le h4 hk.le⟩
theorem growP.low {lo lo' : Nat} {H : Heap} {xs : List (Int × Int)} {v : Value} (h : growP lo H xs v) (hl : lo' ≤ lo) : growP lo' H xs v := by
  rcases h with h | ⟨b, h1, h2, h3, h4⟩
  · exact .inl h
  · exact .inr ⟨b, h1, h2, by omega, h4⟩
theorem pairs_len : ∀ (xs : List (Int × Int)), ((xs.map pairC).flatten).length = xs.length * 2
  | [] => rfl
  | x :: l => by simp only [List.map_cons, List.flatten_cons, List.length_append, List.length_cons, pairs_len l, pairC, List.length_nil]; omega
theorem pairs_len2 (xs : List (Int × Int)) : ∀ x ∈ xs.map pairC, x.length = 2 := by
  intro x hx
  obtain ⟨y, _, rfl⟩ := List.mem_map.1 hx
  rfl

theorem growP_app {t e : TypeId} {i : TypeInfo} {z : Value} (he : elemA Try.prog t = some (e, i)) (hz : zeroA Try.prog e = some (z, 2)) (hi : i.size = 2) (hby : i.bytes ≤ 65536) (hzs : z.cells.size = 2) {lo : Nat} {H0 H : Heap} {xs : List (Int × Int)} {y : Int × Int} {v x : Value} (hw : H.Wf) (h0 : Kept H0 H none) (hv : growP lo H xs v) (hlo : H0.next ≤ lo) (hll : lo ≤ H.next) (hx : rdS H 2 x = some [pairC y]) (hn : xs.length < 1073741823) :
    ∃ v' H', builtinA Try.prog .append #[t, t] [v, x] H = some (.val v', H') ∧ Kept H0 H' none ∧ growP lo H' (xs ++ [y]) v' ∧ lo ≤ H'.next := by
  have hv' : (xs.length = 0 ∧ v = .slice none 0 0 ∧ (xs.map pairC).flatten = []) ∨ ∃ b, v = .slice (some ⟨b, 0, none⟩) xs.length BIG ∧ H.get b = some (.cells true i.size (xs.map pairC).flatten) := by
    rw [hi]
    rcases hv with ⟨rfl, rfl⟩ | ⟨b, h1, h2, _, _⟩
    · exact .inl ⟨rfl, rfl, rfl⟩
    · exact .inr ⟨b, h1, h2⟩
  obtain ⟨H', ap, g1, k2, hlt⟩ := app_big (P := Try.prog) (t := t) he hz hby (by rw [hi]; omega) (by rw [hi]; exact hzs) hw hv' (by rw [hi]; exact pairs_len xs) (x := x) (xs := [pairC y]) (by rw [hi]; exact hx) (by simp; omega) (by simp [pairC]) (by simp)
  have hfl : (xs.map pairC).flatten ++ [pairC y].flatten = ((xs ++ [y]).map pairC).flatten := by simp
  refine ⟨_, H', ap, h0.drop k2 (fun b hb => ?_), .inr ⟨H.next, by simp, by rw [g1, hi, hfl], hll, hlt⟩, by omega⟩
  rcases hv with ⟨_, rfl⟩ | ⟨b', h1, _, h3, _⟩
  · cases hb
  · rw [h1] at hb; cases hb; show H0.next ≤ b'; omega

def callsFrom : List NodeD → Nat → List (Int × Int)
  | [], _ => []
  | x :: l, i => (if namesL x.op = true then [((i : Int), x.n)] else []) ++ callsFrom l (i + 1)
theorem callsFrom_len : ∀ (l : List NodeD) (i : Nat), (callsFrom l i).length ≤ l.length
  | [], _ => Nat.le_refl _
  | x :: l, i => by
    have := callsFrom_len l (i + 1)
    simp only [callsFrom, List.length_append, List.length_cons]
    split <;> simp <;> omega
def callsL (f : FunD) : List (Int × Int) := if okP f = true then callsFrom f.nodes 0 else []
end Go.Proofs.Ytpopkajkekceiaa

namespace Go.Proofs.Ytpopkajkekceiaa
open Go Go.Abs
set_option maxRecDepth 100000
set_option linter.unusedSimpArgs false
set_option linter.unusedVariables false

/-! ### The reference's Calls (25) -/
def pRc : List Nat := [1, 1, 1, 0, 1, 0, 0]
theorem built54 {k k' : IntKind} {a b : Int} : Try.prog.built 54 [(0, .int k a), (1, .int k' b)] = some #[.int k a, .int k' b] := by kernel_rfl
theorem build52 {H : Heap} {k k' : IntKind} {a b : Int} : buildSliceA Try.prog 52 1 [(0, .agg #[.int k a, .int k' b])] H = some (.slice (some ⟨H.next, 0, none⟩) 1 1, H.push (.cells true 2 [.int k a, .int k' b])) := by kernel_rfl
theorem pair_rd {H : Heap} {y : Int × Int} : rdS (H.push (.cells true 2 [.int .i64 y.1, .int .i64 y.2])) 2 (.slice (some ⟨H.next, 0, none⟩) 1 1) = some [pairC y] := by
  simp only [rdS, get_push_self]
  rw [if_pos ⟨by decide, by simp⟩]
  simp [chunks, pairC]

theorem rc_exit {call : CallF} {lf : Nat} {env : Env} {H : Heap} {b1 i n : Nat} {s : Value} {cs : List (List Value)} (e1 : env.val 1 = .pointer (some ⟨b1, 0, none⟩)) (e4 : env.val 4 = .int .i64 i) (ld : loadA Try.prog 22 H b1 1 = some s) (hs : rdS H 3 s = some cs) (hn : cs.length ≤ i) :
    ∃ env', evCode Try.prog call lf 34 none (cAt Try.f25 pRc) env [] H = some (.exit 0, env', [], H) ∧ env'.val 3 = env.val 3 := by
  have c1 : ¬ (i : Int) < (cs.length : Int) := by omega
  have hb := len_of (H' := H) (P := Try.prog) (t := 22) hs Try.underlying22
  generalize hr : evCode Try.prog call lf 34 none (cAt Try.f25 pRc) env [] H = out
  simp [pRc, Try.f25, e1, e4, ld, hb, c1] at hr
  subst hr
  exact ⟨_, rfl, by simp⟩

theorem rc_step {call : CallF} {lf : Nat} {env : Env} {H0 H : Heap} {b1 i lo : Nat} {p s v : Value} {cs : List (List Value)} {op nn : Int} {l : Value} {acc : List (Int × Int)} (e1 : env.val 1 = .pointer (some ⟨b1, 0, none⟩)) (e4 : env.val 4 = .int .i64 i) (e3 : env.val 3 = v) (g1 : H.get b1 = some (.cells true 2 [p, s])) (hs : rdS H 3 s = some cs) (hx : cs[i]? = some [.int .i64 op, .int .i64 nn, l]) (hn : cs.length ≤ 1073741823)
    (hc : ∀ H op, call (.fn 43 [.int .i64 op]) H = some (.ret (.bool (namesL op)), H)) (hw : H.Wf) (h0 : Kept H0 H none) (hv : growP lo H acc v) (hlo : H0.next ≤ lo) (hll : lo ≤ H.next) (ha : acc.length < 1073741823) :
    ∃ env' H' v', evCode Try.prog call lf 34 none (cAt Try.f25 pRc) env [] H = some (.normal, env', [], H') ∧ env'.val 1 = env.val 1 ∧ env'.val 4 = .int .i64 ((i + 1 : Nat) : Int) ∧ env'.val 3 = v' ∧ Kept H0 H' none ∧ growP lo H' (acc ++ (if namesL op = true then [((i : Int), nn)] else [])) v' ∧ lo ≤ H'.next := by
  have hk := (List.getElem?_eq_some_iff.1 hx).1
  have c1 : (i : Int) < (cs.length : Int) := by omega
  have ld : loadA Try.prog 22 H b1 1 = some s := by simp [loadA, g1]
  have w1 : IntKind.i64.wrap ((i : Int) + 1) = (i : Int) + 1 := wrapI (by omega) (by omega)
  have hb := len_of (H' := H) (P := Try.prog) (t := 22) hs Try.underlying22
  have ix := rdS_index hs Try.underlying22 info40 size40 (n := (i : Int)) (by omega) (by omega)
  simp only [Int.toNat_natCast] at ix
  have l0 := rdS_load0 hs hx (u := .int .i64 op) rfl (t := 37) info37 Try.underlying37 rfl
  have l1 := rdS_load hs hx (k := 1) (u := .int .i64 nn) rfl info2 Try.underlying2 (t := 2) rfl
  have hcc := hc H op
  cases hnm : namesL op with
  | false =>
    rw [hnm] at hcc
    generalize hr : evCode Try.prog call lf 34 none (cAt Try.f25 pRc) env [] H = out
    simp [pRc, Try.f25, e1, e4, ld, hb, c1, ix, l0, callA, hcc, w1] at hr
    subst hr
    exact ⟨_, H, v, rfl, by simp [e1], by simp, by simp [e3], h0, by simpa using hv, hll⟩
  | true =>
    rw [hnm] at hcc
    have kk := (Kept.refl hw none).push (.cells true 2 [.int .i64 (i : Int), .int .i64 nn])
    obtain ⟨v', H', ap, k2, hg, hle⟩ := growP_app (t := 52) elem52 zero54 size54 (by decide) rfl (y := ((i : Int), nn)) kk.wf (h0.trans kk) (hv.keep kk) hlo (by simp; omega) (pair_rd (H := H) (y := ((i : Int), nn))) ha
    generalize hr : evCode Try.prog call lf 34 none (cAt Try.f25 pRc) env [] H = out
    simp [pRc, Try.f25, e1, e3, e4, ld, hb, c1, ix, l0, l1, callA, hcc, built54, build52, ap, w1] at hr
    subst hr
    exact ⟨_, H', v', rfl, by simp [e1], by simp, by simp, k2, by simpa using hg, hle⟩

theorem rc_loop {call : CallF} {lf : Nat} {H0 : Heap} {b1 lo : Nat} {p s : Value} {cs : List (List Value)} {xs : List NodeD} (hw0 : H0.Wf) (g1 : H0.get b1 = some (.cells true 2 [p, s])) (hs : rdS H0 3 s = some cs) (hlen : cs.length = xs.length) (hx : ∀ (i : Nat) x, xs[i]? = some x → ∃ l, cs[i]? = some [.int .i64 x.op, .int .i64 x.n, l]) (hn : xs.length ≤ 1073741823)
    (hc : ∀ H op, call (.fn 43 [.int .i64 op]) H = some (.ret (.bool (namesL op)), H)) (hlo : H0.next ≤ lo) :
    ∀ (d i m : Nat) (env : Env) (K : Heap) (acc : List (Int × Int)) (v : Value), d < m → xs.length = i + d → acc.length ≤ i → Kept H0 K none → lo ≤ K.next → growP lo K acc v →
    env.val 1 = .pointer (some ⟨b1, 0, none⟩) → env.val 3 = v → env.val 4 = .int .i64 i →
    ∃ env' K' v', evLoop Try.prog call lf 34 none (cAt Try.f25 pRc) m env [] K = some (.exit 0, env', [], K') ∧ env'.val 3 = v' ∧ Kept H0 K' none ∧ growP lo K' (acc ++ callsFrom (xs.drop i) i) v'
  | d, i, 0, env, K, acc, v, hm, _, _, _, _, _, _, _, _ => by omega
  | 0, i, m + 1, env, K, acc, v, hm, hd, ha, hk, hll, hg, e1, e3, e4 => by
    have q := hk.of_get hw0 g1 (by simp)
    obtain ⟨env', he, u3⟩ := rc_exit (call := call) (lf := lf) (n := 0) e1 e4 (by simp [loadA, q]) (rdS_ext (hk.ext hw0) hs) (by omega)
    simp only [evLoop_succ, he]
    rw [List.drop_eq_nil_of_le (by omega), callsFrom, List.append_nil]
    exact ⟨env', K, v, rfl, u3.trans e3, hk, hg⟩
  | d + 1, i, m + 1, env, K, acc, v, hm, hd, ha, hk, hll, hg, e1, e3, e4 => by
    have q := hk.of_get hw0 g1 (by simp)
    have hxi := List.getElem?_eq_getElem (l := xs) (i := i) (by omega)
    have hdr := List.drop_eq_getElem_cons (l := xs) (i := i) (by omega)
    obtain ⟨l, hcs⟩ := hx i _ hxi
    obtain ⟨env', K', v', he, u1, u4, u3, k2, hg2, hle⟩ := rc_step (call := call) (lf := lf) e1 e4 e3 q (rdS_ext (hk.ext hw0) hs) hcs (by omega) hc hk.wf hk hg hlo hll (by omega)
    obtain ⟨e', K3, v3, r, j3, rest⟩ := rc_loop hw0 g1 hs hlen hx hn hc hlo d (i + 1) m env' K' _ v' (by omega) (by omega) (by
      rw [List.length_append]
      split <;> simp <;> omega) k2 hle hg2 (u1.trans e1) u3 u4
    simp only [evLoop_succ, he]
    rw [hdr, callsFrom, ← List.append_assoc]
    exact ⟨e', K3, v3, r, j3, rest⟩

theorem refcalls_run {call : CallF} {lf : Nat} {v : Value} {f : FunD} {K : Heap} (hw : K.Wf) (hf : rdFit K v = some f) (hlf : f.nodes.length < lf) (hn : f.nodes.length ≤ 1073741823)
    (h41 : ∀ H v, rdFit H v = some f → call (.fn 41 [v]) H = some (.ret (.bool (okP f)), H)) (hc : ∀ H op, call (.fn 43 [.int .i64 op]) H = some (.ret (.bool (namesL op)), H)) :
    ∃ w K', evFn Try.prog call lf 25 [v] K = some (.ret w, K') ∧ Kept K K' none ∧ growP K.next K' (callsL f) w := by
  obtain ⟨s, cs, rfl, os, ns⟩ := rdFun_nodes (rdFit_inv hf).1
  have kk := (Kept.refl hw none).push (.cells true 2 [.int .i64 f.params, s])
  have g2 := get_push_self K (.cells true 2 [.int .i64 f.params, s])
  have hf1 := rdFit_ext (kk.ext hw) hf
  have n1 := ns.ext (kk.ext hw)
  have ld : loadA Try.prog 24 (K.push (.cells true 2 [.int .i64 f.params, s])) K.next 0 = some (.agg #[.int .i64 f.params, s]) := by simp [loadA, g2]
  have c41 := h41 _ _ hf1
  cases ho : okP f with
  | false =>
    rw [ho] at c41
    refine ⟨.slice none 0 0, _, ?_, kk, .inl ⟨by simp [callsL, ho], rfl⟩⟩
    simp [Try.f25, os, ld, callA, c41]
  | true =>
    rw [ho] at c41
    have hnx : (K.push (.cells true 2 [.int .i64 f.params, s])).next = K.next + 1 := rfl
    generalize hH : K.push (.cells true 2 [.int .i64 f.params, s]) = K1 at *
    generalize hE : evFn Try.prog call lf 25 [.agg #[.int .i64 f.params, s]] K = out
    have hr := hE
    simp [Try.f25, os, hH, ld, callA, c41] at hr
    generalize hL : evLoop _ _ _ _ _ _ _ _ _ _ = L at hr
    have aux : ∀ env, evLoop Try.prog call lf 34 none (cAt Try.f25 pRc) lf env [] K1 = L → env.val 1 = .pointer (some ⟨K.next, 0, none⟩) → env.val 3 = .slice none 0 0 → env.val 4 = .int .i64 (0 : Nat) →
        ∃ env' K' v', L = some (.exit 0, env', [], K') ∧ env'.val 3 = v' ∧ Kept K1 K' none ∧ growP K1.next K' (callsFrom f.nodes 0) v' := by
      intro env hL e1 e3 e4
      obtain ⟨env', K', v', h1, h2, h3, h4⟩ := rc_loop (call := call) (lf := lf) (lo := K1.next) kk.wf g2 n1.1 n1.2.1 (fun i x hx => by obtain ⟨l, h, _⟩ := n1.2.2 i x hx; exact ⟨l, h⟩) hn hc (Nat.le_refl _) f.nodes.length 0 lf env K1 [] _ hlf (by omega) (by simp) (Kept.refl kk.wf none) (Nat.le_refl _) (.inl ⟨rfl, rfl⟩) e1 e3 e4
      exact ⟨env', K', v', hL.symm.trans h1, h2, h3, by simpa using h4⟩
    obtain ⟨env', K3, v', rfl, u3, k3, hg⟩ := aux _ hL (by simp) (by simp) (by simp)
    refine ⟨v', K3, ?_, kk.trans k3, ?_⟩
    · simpa [u3] using hr.symm
    · simp only [callsL, ho, if_true]
      exact hg.low (by omega)
end Go.Proofs.Ytpopkajkekceiaa

namespace Go.Proofs.Ytpopkajkekceiaa
open Go Go.Abs
set_option maxRecDepth 100000
set_option linter.unusedSimpArgs false
set_option linter.unusedVariables false

/-! ### slices.Index (59), slices.Contains (53), names (38) -/
def pIx : List Nat := [1, 0, 1, 0, 0]
theorem ia_exit {call : CallF} {lf : Nat} {env : Env} {H : Heap} {i n : Nat} (e7 : env.val 7 = .int .i64 n) (e8 : env.val 8 = .int .i64 i) (hi : n ≤ i) :
    ∃ env', evCode Try.prog call lf 19 none (cAt Try.f59 pIx) env [] H = some (.exit 0, env', [], H) := by
  have c1 : ¬ (i : Int) < (n : Int) := by omega
  generalize hr : evCode Try.prog call lf 19 none (cAt Try.f59 pIx) env [] H = out
  simp [pIx, Try.f59, e7, e8, c1, hi] at hr
  subst hr
  exact ⟨_, rfl⟩
theorem ia_step {call : CallF} {lf : Nat} {env : Env} {H : Heap} {i n : Nat} {s : Value} {ks : List Int} {c op : Int} (hs : rdInts H .i64 s = some ks) (hc : ks[i]? = some c) (hn : ks.length = n) (hb : n < 1099511627776) (e0 : env.val 0 = s) (e1 : env.val 1 = .int .i64 op) (e7 : env.val 7 = .int .i64 n) (e8 : env.val 8 = .int .i64 i) :
    (op = c → ∃ env', evCode Try.prog call lf 19 none (cAt Try.f59 pIx) env [] H = some (.ret, env', [], H) ∧ env'.val 4 = .int .i64 i) ∧
    (op ≠ c → ∃ env', evCode Try.prog call lf 19 none (cAt Try.f59 pIx) env [] H = some (.normal, env', [], H) ∧ env'.val 0 = env.val 0 ∧ env'.val 1 = env.val 1 ∧ env'.val 7 = env.val 7 ∧ env'.val 8 = .int .i64 ((i + 1 : Nat) : Int)) := by
  have hk := (List.getElem?_eq_some_iff.1 hc).1
  have c1 : (i : Int) < (n : Int) := by omega
  have hi : i < n := by omega
  have w1 : IntKind.i64.wrap ((i : Int) + 1) = (i : Int) + 1 := wrapI (by omega) (by omega)
  obtain ⟨iy, ly⟩ := rdInts_at hs hc Try.underlying104 info37 rfl Try.underlying37 rfl
  constructor
  · intro h
    have hq : (op == c) = true := by simp [h]
    generalize hr : evCode Try.prog call lf 19 none (cAt Try.f59 pIx) env [] H = out
    simp [pIx, Try.f59, e0, e1, e7, e8, c1, hi, iy, ly, hq, -beq_iff_eq] at hr
    subst hr
    exact ⟨_, rfl, by simp⟩
  · intro h
    have hq : (op == c) = false := by simp [h]
    generalize hr : evCode Try.prog call lf 19 none (cAt Try.f59 pIx) env [] H = out
    simp [pIx, Try.f59, e0, e1, e7, e8, c1, hi, iy, ly, hq, w1, -beq_eq_false_iff_ne] at hr
    subst hr
    exact ⟨_, rfl, by simp [e0], by simp [e1], by simp [e7], by simp⟩
theorem ia_loop {call : CallF} {lf : Nat} {H : Heap} {s : Value} {ks : List Int} {op : Int} (hs : rdInts H .i64 s = some ks) (hb : ks.length < 1099511627776) :
    ∀ (d i m : Nat) (env : Env), d < m → ks.length = i + d → env.val 0 = s → env.val 1 = .int .i64 op → env.val 7 = .int .i64 ks.length → env.val 8 = .int .i64 i →
    (op ∈ ks.drop i → ∃ env' j, evLoop Try.prog call lf 19 none (cAt Try.f59 pIx) m env [] H = some (.ret, env', [], H) ∧ env'.val 4 = .int .i64 ((j : Nat) : Int)) ∧
    (op ∉ ks.drop i → ∃ env', evLoop Try.prog call lf 19 none (cAt Try.f59 pIx) m env [] H = some (.exit 0, env', [], H))
  | d, i, 0, env, hm, _, _, _, _, _ => by omega
  | 0, i, m + 1, env, hm, hd, e0, e1, e7, e8 => by
    obtain ⟨env', he⟩ := ia_exit (call := call) (lf := lf) (H := H) e7 e8 (by omega)
    simp only [evLoop_succ, he]
    rw [List.drop_eq_nil_of_le (by omega)]
    exact ⟨fun h => by simp at h, fun _ => ⟨_, rfl⟩⟩
  | d + 1, i, m + 1, env, hm, hd, e0, e1, e7, e8 => by
    have hc := List.getElem?_eq_getElem (l := ks) (i := i) (by omega)
    have hdr := List.drop_eq_getElem_cons (l := ks) (i := i) (by omega)
    obtain ⟨g1, g2⟩ := ia_step (call := call) (lf := lf) hs hc rfl hb e0 e1 e7 e8
    rw [hdr]
    by_cases h : op = ks[i]'(by omega)
    · obtain ⟨env', he, u4⟩ := g1 h
      simp only [evLoop_succ, he]
      exact ⟨fun _ => ⟨env', i, rfl, u4⟩, fun hq => absurd (by simp [← h]) hq⟩
    · obtain ⟨env', he, u0, u1, u7, u8⟩ := g2 h
      obtain ⟨r1, r2⟩ := ia_loop (call := call) (lf := lf) hs hb d (i + 1) m env' (by omega) (by omega) (u0.trans e0) (u1.trans e1) (u7.trans e7) u8
      simp only [evLoop_succ, he]
      exact ⟨fun hq => r1 ((List.mem_cons.1 hq).resolve_left h), fun hq => r2 fun hq' => hq (List.mem_cons_of_mem _ hq')⟩

theorem index_run {call : CallF} {lf : Nat} {H : Heap} {s : Value} {ks : List Int} {op : Int} (hs : rdInts H .i64 s = some ks) (hb : ks.length < 1099511627776) (hlf : ks.length < lf) :
    ∃ r : Int, evFn Try.prog call lf 59 [s, .int .i64 op] H = some (.ret (.int .i64 r), H) ∧ (0 ≤ r ↔ op ∈ ks) := by
  have hl := len_of (H' := H) (P := Try.prog) (t := 104) (rdInts_rd hs) Try.underlying104
  simp only [List.length_map] at hl
  generalize hE : evFn Try.prog call lf 59 [s, .int .i64 op] H = out
  have hr := hE
  simp [Try.f59, hl] at hr
  generalize hL : evLoop _ _ _ _ _ _ _ _ _ _ = L at hr
  have aux : ∀ env, evLoop Try.prog call lf 19 none (cAt Try.f59 pIx) lf env [] H = L → env.val 0 = s → env.val 1 = .int .i64 op → env.val 7 = .int .i64 ks.length → env.val 8 = .int .i64 (0 : Nat) →
      (op ∈ ks → ∃ env' j, L = some (.ret, env', [], H) ∧ env'.val 4 = .int .i64 ((j : Nat) : Int)) ∧ (op ∉ ks → ∃ env', L = some (.exit 0, env', [], H)) := by
    intro env hL e0 e1 e7 e8
    have := ia_loop (call := call) (lf := lf) hs hb ks.length 0 lf env hlf (by omega) e0 e1 e7 e8
    rw [hL] at this
    simpa using this
  obtain ⟨g1, g2⟩ := aux _ hL (by simp) (by simp) (by simp) (by simp)
  by_cases h : op ∈ ks
  · obtain ⟨env', j, rfl, u4⟩ := g1 h
    exact ⟨j, by simpa [u4] using hr.symm, by simp [h]⟩
  · obtain ⟨env', rfl⟩ := g2 h
    exact ⟨-1, by simpa using hr.symm, by simp [h]⟩

theorem build104 {H : Heap} : buildSliceA Try.prog 104 5 [(0, .int .i64 13), (1, .int .i64 14), (2, .int .i64 21), (3, .int .i64 22), (4, .int .i64 23)] H = some (.slice (some ⟨H.next, 0, none⟩) 5 5, H.push (.cells true 1 [.int .i64 13, .int .i64 14, .int .i64 21, .int .i64 22, .int .i64 23])) := by kernel_rfl

theorem namesL_mem (op : Int) : namesL op = decide (op ∈ ([13, 14, 21, 22, 23] : List Int)) := by
  unfold namesL
  rw [decide_eq_decide]
  simp only [List.mem_cons, List.not_mem_nil, or_false]
  omega

noncomputable def namesFC : Contract Try.prog := Contract.plain 38
  (fun args H => match args with
    | [v] => match nodeOk H v with
      | some x => some (.ret (.bool (namesL x.op)))
      | none => none
    | _ => none) (by
    intro args H res hw hr
    split at hr
    · rename_i v
      split at hr
      · rename_i x hx
        simp only [Option.some.injEq] at hr
        subst hr
        obtain ⟨l, rfl, hl, _⟩ := nodeOk_inv hx
        obtain ⟨hcl, ol⟩ := ints_one hl
        generalize x.op = op at *
        generalize x.n = n at *
        have hb : rdInts ((H.push (.cells true 3 [.int .i64 op, .int .i64 n, l])).push (.cells true 1 [.int .i64 13, .int .i64 14, .int .i64 21, .int .i64 22, .int .i64 23])) .i64 (.slice (some ⟨H.next + 1, 0, none⟩) 5 5) = some [13, 14, 21, 22, 23] := by
          refine rdInts_of ?_
          simp only [rdS, show H.next + 1 = (H.push (.cells true 3 [.int .i64 op, .int .i64 n, l])).next from rfl, get_push_self]
          rw [if_pos ⟨by decide, by simp⟩]
          rfl
        obtain ⟨r, c59, hrr⟩ := index_run (call := fun _ _ => none) (lf := 6) (op := op) hb (by decide) (by decide)
        have b4 := build104 (H := H.push (.cells true 3 [.int .i64 op, .int .i64 n, l]))
        simp only [Heap.next_push] at b4
        have x1 := (Ext.push hw (.cells true 3 [.int .i64 op, .int .i64 n, l])).trans (Ext.push (hw.push _) (.cells true 1 [.int .i64 13, .int .i64 14, .int .i64 21, .int .i64 22, .int .i64 23]))
        have ld : loadA Try.prog 37 ((H.push (.cells true 3 [.int .i64 op, .int .i64 n, l])).push (.cells true 1 [.int .i64 13, .int .i64 14, .int .i64 21, .int .i64 22, .int .i64 23])) H.next 0 = some (.int .i64 op) := by
          have : ((H.push (.cells true 3 [.int .i64 op, .int .i64 n, l])).push (.cells true 1 [.int .i64 13, .int .i64 14, .int .i64 21, .int .i64 22, .int .i64 23])).get H.next = some (.cells true 3 [.int .i64 op, .int .i64 n, l]) := by
            rw [get_push_ne (by simp), get_push_self]
          simp [loadA, this]
        refine ⟨rfl, ev1 Try.prog (ev1 Try.prog (fun _ _ => none) 6) 6, _, ev1_sound (ev1_sound noCall_ok), 6, ?_, x1⟩
        have hres : namesL op = decide (0 ≤ r) := by rw [namesL_mem, decide_eq_decide]; exact hrr.symm
        generalize (H.push (.cells true 3 [.int .i64 op, .int .i64 n, l])).push (.cells true 1 [.int .i64 13, .int .i64 14, .int .i64 21, .int .i64 22, .int .i64 23]) = H2 at *
        have c53 : ev1 Try.prog (ev1 Try.prog (fun _ _ => none) 6) 6 (.fn 53 [.slice (some ⟨H.next + 1, 0, none⟩) 5 5, .int .i64 op]) H2 = some (.ret (.bool (namesL op)), H2) := by
          have c59' : ev1 Try.prog (fun _ _ => none) 6 (.fn 59 [.slice (some ⟨H.next + 1, 0, none⟩) 5 5, .int .i64 op]) H2 = some (.ret (.int .i64 r), H2) := c59
          show evFn Try.prog (ev1 Try.prog (fun _ _ => none) 6) 6 53 [.slice (some ⟨H.next + 1, 0, none⟩) 5 5, .int .i64 op] H2 = _
          generalize ev1 Try.prog (fun _ _ => none) 6 = call at c59'
          rw [hres]
          simp [Try.f53, callA, c59']
        generalize ev1 Try.prog (ev1 Try.prog (fun _ _ => none) 6) 6 = call at c53
        simp [Try.f38, ol, b4, ld, callA, c53]
      · cases hr
    · cases hr)
theorem namesF_hit {cs : List (Contract Try.prog)} {H : Heap} {v : Value} {x : NodeD} (h : nodeOk H v = some x) : callOf (namesFC :: cs) (.fn 38 [v]) H = some (.ret (.bool (namesL x.op)), H) :=
  callOf_hit rfl (by simp [namesFC, Contract.plain, h])

/-! ### Calls$1 (39) -/
theorem built80 {k k' : IntKind} {a b : Int} : Try.prog.built 80 [(0, .int k a), (1, .int k' b)] = some #[.int k a, .int k' b] := by kernel_rfl
theorem build77 {H : Heap} {k k' : IntKind} {a b : Int} : buildSliceA Try.prog 77 1 [(0, .agg #[.int k a, .int k' b])] H = some (.slice (some ⟨H.next, 0, none⟩) 1 1, H.push (.cells true 2 [.int k a, .int k' b])) := by kernel_rfl
noncomputable def rowFC : Contract Try.prog := Contract.plain 39
  (fun args H => match args with
    | [.int .i64 i, v] => match nodeOk H v with
      | some x => some (.ret (.agg #[.int .i64 i, .int .i64 x.n]))
      | none => none
    | _ => none) (by
    intro args H res hw hr
    split at hr
    · rename_i i v
      split at hr
      · rename_i x hx
        simp only [Option.some.injEq] at hr
        subst hr
        obtain ⟨l, rfl, hl, _⟩ := nodeOk_inv hx
        obtain ⟨hcl, ol⟩ := ints_one hl
        generalize x.op = op at *
        generalize x.n = n at *
        have k1 := (Kept.refl hw none).push (.cells true 3 [.int .i64 op, .int .i64 n, l])
        have k2 := k1.push (.cells true 2 [.int .i64 0, .int .i64 0])
        have k3 := k2.set (c := H.next + 1) (by omega) (by simp) (.cells true 2 [.int .i64 i, .int .i64 n])
        have st := storeQ (H := H.push (.cells true 3 [.int .i64 op, .int .i64 n, l])) (a := .int .i64 i) (b := .int .i64 n) (x := .int .i64 0) (y := .int .i64 0) rfl rfl 80 _ info80 size80
        have ld : loadA Try.prog 2 ((H.push (.cells true 3 [.int .i64 op, .int .i64 n, l])).push (.cells true 2 [.int .i64 0, .int .i64 0])) H.next 1 = some (.int .i64 n) := by
          have : ((H.push (.cells true 3 [.int .i64 op, .int .i64 n, l])).push (.cells true 2 [.int .i64 0, .int .i64 0])).get H.next = some (.cells true 3 [.int .i64 op, .int .i64 n, l]) := by
            rw [get_push_ne (by simp), get_push_self]
          simp [loadA, this]
        refine ⟨rfl, _, _, noCall_ok, 0, ?_, k3.ext hw⟩
        simp only [Heap.next_push] at st
        have ld2 : loadA Try.prog 80 (((H.push (.cells true 3 [.int .i64 op, .int .i64 n, l])).push (.cells true 2 [.int .i64 0, .int .i64 0])).set (H.next + 1) (.cells true 2 [.int .i64 i, .int .i64 n])) (H.next + 1) 0 = some (.agg #[.int .i64 i, .int .i64 n]) := by
          simp [loadA, get_set_self]
        simp [Try.f39, ol, ld, built80, st, ld2]
      · cases hr
    · cases hr)
theorem rowF_hit {cs : List (Contract Try.prog)} {H : Heap} {i : Int} {v : Value} {x : NodeD} (h : nodeOk H v = some x) : callOf (rowFC :: cs) (.fn 39 [.int .i64 i, v]) H = some (.ret (.agg #[.int .i64 i, .int .i64 x.n]), H) :=
  callOf_hit rfl (by simp [rowFC, Contract.plain, h])
end Go.Proofs.Ytpopkajkekceiaa

namespace Go.Proofs.Ytpopkajkekceiaa
open Go Go.Abs
set_option maxRecDepth 100000
set_option linter.unusedSimpArgs false
set_option linter.unusedVariables false

/-! ### sifted (37) with names and Calls$1 -/
def pSf : List Nat := [1, 0, 1, 0, 0]
theorem sf_exit {call : CallF} {lf : Nat} {env : Env} {H : Heap} {i n : Nat} (e10 : env.val 10 = .int .i64 n) (e11 : env.val 11 = .int .i64 i) (hi : n ≤ i) :
    ∃ env', evCode Try.prog call lf 28 none (cAt Try.f37 pSf) env [] H = some (.exit 0, env', [], H) ∧ env'.val 6 = env.val 6 := by
  have c1 : ¬ (i : Int) < (n : Int) := by omega
  generalize hr : evCode Try.prog call lf 28 none (cAt Try.f37 pSf) env [] H = out
  simp [pSf, Try.f37, e10, e11, c1, hi] at hr
  subst hr
  exact ⟨_, rfl, by simp⟩

theorem sf_step {call : CallF} {lf : Nat} {env : Env} {H0 H : Heap} {i n lo : Nat} {s v l : Value} {cs : List (List Value)} {x : NodeD} {acc : List (Int × Int)} (e1 : env.val 1 = .func (.func 38) #[] #[]) (e2 : env.val 2 = .func (.func 39) #[] #[]) (e6 : env.val 6 = v) (e9 : env.val 9 = s) (e10 : env.val 10 = .int .i64 n) (e11 : env.val 11 = .int .i64 i) (hs : rdS H 3 s = some cs) (hx : cs[i]? = some [.int .i64 x.op, .int .i64 x.n, l]) (hl : rdInts H .i64 l = some x.l) (hll : x.l.length < 1099511627776) (hnl : cs.length = n) (hn : n ≤ 1073741823)
    (hc : ∀ H v x, nodeOk H v = some x → call (.fn 38 [v]) H = some (.ret (.bool (namesL x.op)), H)) (hc2 : ∀ (i : Int) H v x, nodeOk H v = some x → call (.fn 39 [.int .i64 i, v]) H = some (.ret (.agg #[.int .i64 i, .int .i64 x.n]), H)) (hw : H.Wf) (h0 : Kept H0 H none) (hv : growP lo H acc v) (hlo : H0.next ≤ lo) (hle : lo ≤ H.next) (ha : acc.length < 1073741823) :
    ∃ env' H' v', evCode Try.prog call lf 28 none (cAt Try.f37 pSf) env [] H = some (.normal, env', [], H') ∧ env'.val 1 = env.val 1 ∧ env'.val 2 = env.val 2 ∧ env'.val 9 = env.val 9 ∧ env'.val 10 = env.val 10 ∧ env'.val 11 = .int .i64 ((i + 1 : Nat) : Int) ∧ env'.val 6 = v' ∧ Kept H0 H' none ∧ growP lo H' (acc ++ (if namesL x.op = true then [((i : Int), x.n)] else [])) v' ∧ lo ≤ H'.next := by
  have hk := (List.getElem?_eq_some_iff.1 hx).1
  have c1 : (i : Int) < (n : Int) := by omega
  have hi : i < n := by omega
  have w1 : IntKind.i64.wrap ((i : Int) + 1) = (i : Int) + 1 := wrapI (by omega) (by omega)
  have ix := rdS_index hs Try.underlying22 info40 size40 (n := (i : Int)) (by omega) (by omega)
  simp only [Int.toNat_natCast] at ix
  have lx := rdS_loadA hs hx (t := 40) info40 size40 Try.underlying40 rfl
  obtain ⟨hcl, ol⟩ := ints_one hl
  have s1 := store40 (H := H.push (.cells true 3 [.int .i64 0, .int .i64 0, .slice none 0 0])) (b := H.next) (op := x.op) (n := x.n) (get_push_self _ _) ol
  rw [show (H.push (.cells true 3 [.int .i64 0, .int .i64 0, .slice none 0 0])).set H.next (.cells true 3 [.int .i64 x.op, .int .i64 x.n, l]) = nodeIn H x.op x.n l from rfl] at s1
  have k1 := nodeIn_kept hw x.op x.n l
  have r1 := load40 (nodeIn_self H x.op x.n l)
  have hok := nodeOk_of (x := x) (rdInts_ext (k1.ext hw) hl) hll
  have hnx := nodeIn_next H x.op x.n l
  generalize nodeIn H x.op x.n l = H1 at *
  have c38 := hc _ _ _ hok
  have c39 := hc2 i _ _ _ hok
  cases hnm : namesL x.op with
  | false =>
    rw [hnm] at c38
    generalize hr : evCode Try.prog call lf 28 none (cAt Try.f37 pSf) env [] H = out
    simp [pSf, Try.f37, e1, e2, e9, e10, e11, c1, hi, ix, lx, s1, r1, callA, c38, w1] at hr
    subst hr
    exact ⟨_, H1, v, rfl, by simp [e1], by simp [e2], by simp [e9], by simp [e10], by simp, by simp [e6], h0.trans k1, by simpa using hv.keep k1, by omega⟩
  | true =>
    rw [hnm] at c38
    have k2 := (Kept.refl k1.wf none).push (.cells true 2 [.int .i64 (i : Int), .int .i64 x.n])
    obtain ⟨v', H', ap, k3, hg, hle'⟩ := growP_app (t := 77) elem77 zero80 size80 (by decide) rfl (y := ((i : Int), x.n)) k2.wf ((h0.trans k1).trans k2) ((hv.keep k1).keep k2) hlo (by simp; omega) (pair_rd (H := H1) (y := ((i : Int), x.n))) ha
    generalize hr : evCode Try.prog call lf 28 none (cAt Try.f37 pSf) env [] H = out
    simp [pSf, Try.f37, e1, e2, e6, e9, e10, e11, c1, hi, ix, lx, s1, r1, callA, c38, c39, build77, ap, w1] at hr
    subst hr
    exact ⟨_, H', v', rfl, by simp [e1], by simp [e2], by simp [e9], by simp [e10], by simp, by simp, k3, by simpa using hg, hle'⟩

theorem sf_loop {call : CallF} {lf : Nat} {H0 : Heap} {lo : Nat} {s : Value} {cs : List (List Value)} {xs : List NodeD} (hw0 : H0.Wf) (ns : nodesAt H0 s cs xs) (hn : xs.length ≤ 1073741823) (hll : ∀ x ∈ xs, x.l.length < 1099511627776)
    (hc : ∀ H v x, nodeOk H v = some x → call (.fn 38 [v]) H = some (.ret (.bool (namesL x.op)), H)) (hc2 : ∀ (i : Int) H v x, nodeOk H v = some x → call (.fn 39 [.int .i64 i, v]) H = some (.ret (.agg #[.int .i64 i, .int .i64 x.n]), H)) (hlo : H0.next ≤ lo) :
    ∀ (d i m : Nat) (env : Env) (K : Heap) (acc : List (Int × Int)) (v : Value), d < m → xs.length = i + d → acc.length ≤ i → Kept H0 K none → lo ≤ K.next → growP lo K acc v →
    env.val 1 = .func (.func 38) #[] #[] → env.val 2 = .func (.func 39) #[] #[] → env.val 6 = v → env.val 9 = s → env.val 10 = .int .i64 xs.length → env.val 11 = .int .i64 i →
    ∃ env' K' v', evLoop Try.prog call lf 28 none (cAt Try.f37 pSf) m env [] K = some (.exit 0, env', [], K') ∧ env'.val 6 = v' ∧ Kept H0 K' none ∧ growP lo K' (acc ++ callsFrom (xs.drop i) i) v'
  | d, i, 0, env, K, acc, v, hm, _, _, _, _, _, _, _, _, _, _, _ => by omega
  | 0, i, m + 1, env, K, acc, v, hm, hd, ha, hk, hle, hg, e1, e2, e6, e9, e10, e11 => by
    obtain ⟨env', he, u6⟩ := sf_exit (call := call) (lf := lf) (H := K) e10 e11 (by omega)
    simp only [evLoop_succ, he]
    rw [List.drop_eq_nil_of_le (by omega), callsFrom, List.append_nil]
    exact ⟨env', K, v, rfl, u6.trans e6, hk, hg⟩
  | d + 1, i, m + 1, env, K, acc, v, hm, hd, ha, hk, hle, hg, e1, e2, e6, e9, e10, e11 => by
    have hxi := List.getElem?_eq_getElem (l := xs) (i := i) (by omega)
    have hdr := List.drop_eq_getElem_cons (l := xs) (i := i) (by omega)
    obtain ⟨l, hcs, hl⟩ := ns.2.2 i _ hxi
    obtain ⟨env', K', v', he, u1, u2, u9, u10, u11, u6, k2, hg2, hle2⟩ := sf_step (call := call) (lf := lf) e1 e2 e6 e9 e10 e11 (rdS_ext (hk.ext hw0) ns.1) hcs (rdInts_ext (hk.ext hw0) hl) (hll _ (List.getElem_mem _)) ns.2.1 hn hc hc2 hk.wf hk hg hlo hle (by omega)
    obtain ⟨e', K3, v3, r, j3, rest⟩ := sf_loop hw0 ns hn hll hc hc2 hlo d (i + 1) m env' K' _ v' (by omega) (by omega) (by
      rw [List.length_append]
      split <;> simp <;> omega) k2 hle2 hg2 (u1.trans e1) (u2.trans e2) u6 (u9.trans e9) (u10.trans e10) u11
    simp only [evLoop_succ, he]
    rw [hdr, callsFrom, ← List.append_assoc]
    exact ⟨e', K3, v3, r, j3, rest⟩

theorem sifted_run {call : CallF} {lf : Nat} {H : Heap} {s : Value} {cs : List (List Value)} {xs : List NodeD} (hw : H.Wf) (ns : nodesAt H s cs xs) (hn : xs.length ≤ 1073741823) (hll : ∀ x ∈ xs, x.l.length < 1099511627776) (hlf : xs.length < lf)
    (hc : ∀ H v x, nodeOk H v = some x → call (.fn 38 [v]) H = some (.ret (.bool (namesL x.op)), H)) (hc2 : ∀ (i : Int) H v x, nodeOk H v = some x → call (.fn 39 [.int .i64 i, v]) H = some (.ret (.agg #[.int .i64 i, .int .i64 x.n]), H)) :
    ∃ w H', evFn Try.prog call lf 37 [s, .func (.func 38) #[] #[], .func (.func 39) #[] #[]] H = some (.ret w, H') ∧ Kept H H' none ∧ growP H.next H' (callsFrom xs 0) w := by
  have hl := len_of (H' := H) (P := Try.prog) (t := 22) ns.1 Try.underlying22
  rw [ns.2.1] at hl
  generalize hE : evFn Try.prog call lf 37 [s, .func (.func 38) #[] #[], .func (.func 39) #[] #[]] H = out
  have hr := hE
  simp [Try.f37, hl] at hr
  generalize hL : evLoop _ _ _ _ _ _ _ _ _ _ = L at hr
  have aux : ∀ env, evLoop Try.prog call lf 28 none (cAt Try.f37 pSf) lf env [] H = L → env.val 1 = .func (.func 38) #[] #[] → env.val 2 = .func (.func 39) #[] #[] → env.val 6 = .slice none 0 0 → env.val 9 = s → env.val 10 = .int .i64 xs.length → env.val 11 = .int .i64 (0 : Nat) →
      ∃ env' K' v', L = some (.exit 0, env', [], K') ∧ env'.val 6 = v' ∧ Kept H K' none ∧ growP H.next K' (callsFrom xs 0) v' := by
    intro env hL e1 e2 e6 e9 e10 e11
    obtain ⟨env', K', v', h1, h2, h3, h4⟩ := sf_loop (call := call) (lf := lf) hw ns hn hll hc hc2 (Nat.le_refl _) xs.length 0 lf env H [] _ hlf (by omega) (by simp) (Kept.refl hw none) (Nat.le_refl _) (.inl ⟨rfl, rfl⟩) e1 e2 e6 e9 e10 e11
    exact ⟨env', K', v', hL.symm.trans h1, h2, h3, by simpa using h4⟩
  obtain ⟨env', K3, v', rfl, u6, k3, hg⟩ := aux _ hL (by simp) (by simp) (by simp) (by simp) (by simp) (by simp)
  exact ⟨v', K3, by simpa [u6] using hr.symm, k3, hg⟩

/-! ### Calls (23) -/
noncomputable def call37 : CallF := callOf [namesFC, rowFC]
theorem call37_names (H : Heap) (v : Value) (x : NodeD) (h : nodeOk H v = some x) : call37 (.fn 38 [v]) H = some (.ret (.bool (namesL x.op)), H) := namesF_hit h
theorem call37_row (i : Int) (H : Heap) (v : Value) (x : NodeD) (h : nodeOk H v = some x) : call37 (.fn 39 [.int .i64 i, v]) H = some (.ret (.agg #[.int .i64 i, .int .i64 x.n]), H) := by
  unfold call37
  rw [callOf_miss (by decide)]
  exact rowF_hit h
noncomputable def call23 (lf : Nat) : CallF := orC (callOf cI) (ev1 Try.prog call37 lf)
theorem call23_ok (lf : Nat) : CallOk Try.prog (call23 lf) := orC_ok (callOf_ok _) (ev1_sound (callOf_ok _))
theorem call23_fn {lf : Nat} {f : FuncId} {args : List Value} {H : Heap} (h1 : f ≠ 14) : call23 lf (.fn f args) H = evFn Try.prog call37 lf f args H := by
  unfold call23
  rw [orC_miss (by unfold cI; rw [callOf_miss h1]; rfl)]
  rfl
theorem call23_check {lf : Nat} {H : Heap} {v : Value} {f : FunD} (h : rdFit H v = some f) : call23 lf (.fn 14 [v]) H = some (.ret (.int .i64 (whereL f).2), H) := orC_hit (check_hit h)
theorem toldi_run {call : CallF} {lf : Nat} {H : Heap} {x : Option Addr} {n c : Nat} : evFn Try.prog call lf 40 [.slice x n c] H = some (.ret (.func (.func 54) #[] #[.pointer (some ⟨H.next, 0, none⟩)]), H.push (.cells true 1 [.slice x n c])) := by
  simp [Try.f40]
theorem growP_form {lo : Nat} {H : Heap} {xs : List (Int × Int)} {v : Value} (h : growP lo H xs v) : ∃ x n c, v = .slice x n c := by
  rcases h with ⟨_, rfl⟩ | ⟨b, rfl, _⟩ <;> exact ⟨_, _, _, rfl⟩

theorem calls_run {lf : Nat} {K : Heap} {v : Value} {f : FunD} (hw : K.Wf) (hf : rdFit K v = some f) (hn : f.nodes.length ≤ 1073741823) (hll : ∀ x ∈ f.nodes, x.l.length < 1099511627776) (hlf : f.nodes.length < lf) :
    ∃ bt w K', evFn Try.prog (call23 lf) lf 23 [v] K = some (.ret (.func (.func 54) #[] #[.pointer (some ⟨bt, 0, none⟩)]), K') ∧ Kept K K' none ∧ K.next ≤ bt ∧ bt < K'.next ∧ K'.get bt = some (.cells true 1 [w]) ∧ growP K.next K' (callsL f) w := by
  obtain ⟨s, cs, rfl, os, ns⟩ := rdFun_nodes (rdFit_inv hf).1
  have kk := (Kept.refl hw none).push (.cells true 2 [.int .i64 f.params, s])
  have g2 := get_push_self K (.cells true 2 [.int .i64 f.params, s])
  have hf1 := rdFit_ext (kk.ext hw) hf
  have n1 := ns.ext (kk.ext hw)
  have ld : loadA Try.prog 24 (K.push (.cells true 2 [.int .i64 f.params, s])) K.next 0 = some (.agg #[.int .i64 f.params, s]) := by simp [loadA, g2]
  have ld1 : loadA Try.prog 22 (K.push (.cells true 2 [.int .i64 f.params, s])) K.next 1 = some s := by simp [loadA, g2]
  have c14 := call23_check (lf := lf) hf1
  have hnx : (K.push (.cells true 2 [.int .i64 f.params, s])).next = K.next + 1 := rfl
  generalize hH : K.push (.cells true 2 [.int .i64 f.params, s]) = K1 at *
  cases hl : lookedL f with
  | error i =>
    have h8 : (whereL f).2 = 60 := by simp only [whereL, hl]
    have ho := okP_error hl
    rw [h8] at c14
    have c40 : call23 lf (.fn 40 [.slice none 0 0]) K1 = _ := (call23_fn (by decide)).trans (toldi_run (H := K1) (x := none) (n := 0) (c := 0))
    refine ⟨K1.next, .slice none 0 0, _, ?_, kk.push _, by omega, by simp, get_push_self _ _, .inl ⟨by simp [callsL, ho], rfl⟩⟩
    generalize call23 lf = call at c14 c40
    simp [Try.f23, os, hH, ld, callA, c14, c40]
  | ok ps =>
    have h8 : (whereL f).2 = 0 := by simp only [whereL, hl]
    have ho := okP_ok hl
    rw [h8] at c14
    obtain ⟨w, K2, c37, k2, hg⟩ := sifted_run (call := call37) (lf := lf) kk.wf n1 hn hll hlf call37_names call37_row
    have c37' : call23 lf (.fn 37 [s, .func (.func 38) #[] #[], .func (.func 39) #[] #[]]) K1 = _ := (call23_fn (by decide)).trans c37
    obtain ⟨x, n, c, rfl⟩ := growP_form hg
    have c40 : call23 lf (.fn 40 [.slice x n c]) K2 = _ := (call23_fn (by decide)).trans (toldi_run (H := K2) (x := x) (n := n) (c := c))
    have k3 := (kk.trans k2).push (.cells true 1 [.slice x n c])
    refine ⟨K2.next, .slice x n c, _, ?_, k3, by have := (kk.trans k2).le; omega, by simp, get_push_self _ _, ?_⟩
    · generalize call23 lf = call at c14 c40 c37'
      simp [Try.f23, os, hH, ld, ld1, callA, c14, c37', c40]
    · simp only [callsL, ho, if_true]
      exact (hg.low (by omega)).keep ((Kept.refl k2.wf none).push _)
end Go.Proofs.Ytpopkajkekceiaa
