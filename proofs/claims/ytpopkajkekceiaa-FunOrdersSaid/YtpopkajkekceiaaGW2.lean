/-
  A part of a proof: texts laid behind one another (W11, W12, W13, W14, W15, W16, W17, W18, W19, W20, W21).
-/
import Derived.Test.YtpopkajkekceiaaGW1
namespace Go.Proofs.Ytpopkajkekceiaa
open Go Go.Abs
set_option maxRecDepth 100000
set_option linter.unusedSimpArgs false
set_option linter.unusedVariables false

theorem keepO.refl (e : Env) : keepO e e := ⟨rfl, rfl, rfl, rfl, rfl, rfl⟩
theorem keepO.trans {a b c : Env} (h : keepO a b) (k : keepO b c) : keepO a c :=
  ⟨k.1.trans h.1, k.2.1.trans h.2.1, k.2.2.1.trans h.2.2.1, k.2.2.2.1.trans h.2.2.2.1, k.2.2.2.2.1.trans h.2.2.2.2.1, k.2.2.2.2.2.trans h.2.2.2.2.2⟩
theorem keepI.trans {a b c : Env} (h : keepI a b) (k : keepI b c) : keepI a c :=
  ⟨h.1.trans k.1, k.2.1.trans h.2.1, k.2.2.1.trans h.2.2.1, k.2.2.2.1.trans h.2.2.2.1, k.2.2.2.2.1.trans h.2.2.2.2.1, k.2.2.2.2.2.trans h.2.2.2.2.2⟩

/-- The heap while it looks at what stands beneath a node. -/
structure KHeap (H0 H : Heap) (b1 b2 b4 b6 m : Nat) (p0 s op n l : Value) (ps : List Pl) : Prop where
  wf : H.Wf
  ext : Ext H0 H
  h0 : H0.get b1 = none
  h1 : H.get b1 = some (.cells true 3 (flatP ps))
  h2 : H.get b2 = some (.cells true 3 [p0, s, .slice (some ⟨b1, 0, none⟩) m m])
  h4 : H.get b4 = some (.cells true 75 shapesL)
  h6 : H.get b6 = some (.cells true 3 [op, n, l])
  hm : ps.length = m

theorem KHeap.push {H0 H : Heap} {b1 b2 b4 b6 m : Nat} {p0 s op n l : Value} {ps : List Pl} (h : KHeap H0 H b1 b2 b4 b6 m p0 s op n l ps) (o : AObj) : KHeap H0 (H.push o) b1 b2 b4 b6 m p0 s op n l ps :=
  ⟨h.wf.push o, h.ext.to_push h.wf o, h.h0, (get_push_ne (Nat.ne_of_lt (h.wf.lt h.h1))).trans h.h1, (get_push_ne (Nat.ne_of_lt (h.wf.lt h.h2))).trans h.h2, (get_push_ne (Nat.ne_of_lt (h.wf.lt h.h4))).trans h.h4, (get_push_ne (Nat.ne_of_lt (h.wf.lt h.h6))).trans h.h6, h.hm⟩
theorem KHeap.put {H0 H : Heap} {b1 b2 b4 b6 m : Nat} {p0 s op n l : Value} {ps ps' : List Pl} (h : KHeap H0 H b1 b2 b4 b6 m p0 s op n l ps) (n2 : b2 ≠ b1) (n4 : b4 ≠ b1) (n6 : b6 ≠ b1) (hl : ps'.length = ps.length) : KHeap H0 (H.set b1 (.cells true 3 (flatP ps'))) b1 b2 b4 b6 m p0 s op n l ps' :=
  ⟨h.wf.set (h.wf.lt h.h1) _, h.ext.to_set h.h0 _, h.h0, get_set_self _ _ _, (get_set_ne n2).trans h.h2, (get_set_ne n4).trans h.h4, (get_set_ne n6).trans h.h6, hl.trans h.hm⟩

/-- One round of the inner loop. -/
theorem kid_step {lf : Nat} {env : Env} {H0 H : Heap} {b1 b2 b4 b6 i m k : Nat} {op vars c : Int} {p0 s n l : Value} {ps : List Pl} {es : Nat} {xs : List (List Value)} {ll : List Int}
    (hH : KHeap H0 H b1 b2 b4 b6 m p0 s (.int .i64 op) n l ps) (n2 : b2 ≠ b1) (n4 : b4 ≠ b1) (n6 : b6 ≠ b1) (hs : rdS H0 es s = some xs) (hl : rdInts H0 .i64 l = some ll) (hlen : xs.length = m) (hb : m ≤ 200) (hi : i < 200) (hv0 : 0 ≤ vars) (hv1 : vars ≤ 64)
    (h3 : env.val 3 = .pointer (some ⟨b2, 0, none⟩)) (h5 : env.val 5 = .int .i64 i) (h6 : env.val 6 = .pointer (some ⟨b6, 0, none⟩)) (h8 : env.val 8 = .int .i64 vars) (h96 : env.val 96 = l) (h97 : env.val 97 = .int .i64 ll.length) (h98 : env.val 98 = .int .i64 k) (hk : ll[k]? = some c) (hkb : k < 1099511627776) :
    (((i : Int) + 1 ≤ c ∧ c ≤ (m : Int) - 1) ∧ (ps[c.toNat]?).map (·.has) = some false →
      ∃ env' H', evCode Try.prog (callOf c06) lf 158 none (cAt Try.f30 pK) env [] H = some (.normal, env', [], H') ∧ keepI env env' ∧ env'.val 98 = .int .i64 ((k + 1 : Nat) : Int) ∧
        KHeap H0 H' b1 b2 b4 b6 m p0 s (.int .i64 op) n l (ps.set c.toNat ⟨i, if op = 4 ∧ k = 1 then vars + 1 else vars, true⟩)) ∧
    (¬ (((i : Int) + 1 ≤ c ∧ c ≤ (m : Int) - 1) ∧ (ps[c.toNat]?).map (·.has) = some false) →
      ∃ env' H', evCode Try.prog (callOf c06) lf 158 none (cAt Try.f30 pK) env [] H = some (.panic (.iface 89 (.int .i64 i)), env', [], H') ∧ Ext H0 H') := by
  have hkl := (List.getElem?_eq_some_iff.1 hk).1
  obtain ⟨e1, r1, k1, a1, c1⟩ := kid_R12 (call := callOf c06) (lf := lf) (H := H) h97 h98
  have hcT : (decide (k < ll.length)) = true := by simp [hkl]
  rw [hcT] at c1
  obtain ⟨e2, r2, k2, a2, b2', c2⟩ := kid_R13 (call := callOf c06) (lf := lf) (env := e1) (H := H) (l := l) (k1.2.2.2.2.1.trans h96) (a1.trans h98) (rdInts_ext hH.ext hl) hk
  have k12 := k1.trans k2
  obtain ⟨e3, H3, r3, ⟨o, rfl⟩, k3, a3, b3, c3⟩ := kid_R14 (lf := lf) (env := e2) (H := H) (k12.1.2.1.trans h3) (k12.2.1.trans h5) c2 hH.h2 hH.h1 hH.hm (rdS_ext hH.ext hs) hlen hb hi hH.wf
  have k13 := k12.trans k3
  have hH3 := hH.push o
  have hcond : evCode Try.prog (callOf c06) lf 158 none (cAt Try.f30 (pK ++ [1, 0])) e1 [] H = some (.normal, e1, [], H) := by
    simp [pK, Try.f30, c1]
  constructor
  · intro hgood
    rw [if_pos hgood] at r3
    obtain ⟨⟨g1, g2⟩, g3⟩ := hgood
    have hcm : c.toNat < ps.length := by have := hH.hm; omega
    obtain ⟨e4, r4, k4, a4, b4', c4⟩ := kid_R15 (call := callOf c06) (lf := lf) (env := e3) (k13.1.2.1.trans h3) (k13.2.1.trans h5) (k13.2.2.2.1.trans h8) (c3.trans c2) hH3.h2 hH3.h1 hH3.hm (by omega) (by omega)
    have k14 := k13.trans k4
    have hH4 := hH3.put (ps' := ps.set c.toNat ⟨i, vars, true⟩) n2 n4 n6 (by simp)
    obtain ⟨e5, r5, k5, a5, b5, c5⟩ := kid_R16 (call := callOf c06) (lf := lf) (env := e4) (k := k) (k14.2.2.1.trans h6) (b4'.trans (b3.trans b2')) hH4.h6
    have k15 := k14.trans k5
    have h98' : e5.val 98 = .int .i64 k := a5.trans (a4.trans (a3.trans (a2.trans (a1.trans h98))))
    have h10' : e5.val 10 = .int .i64 c := b5.trans (c4.trans (c3.trans c2))
    have fin : ∃ e6 H6, evCode Try.prog (callOf c06) lf 158 none (cAt Try.f30 (pK ++ [1, 1, 0, 0, 1, 1, 1, 1])) e5 [] ((H.push o).set b1 (.cells true 3 (flatP (ps.set c.toNat ⟨i, vars, true⟩)))) = some (.normal, e6, [], H6) ∧ keepI e5 e6 ∧ e6.val 98 = e5.val 98 ∧
        KHeap H0 H6 b1 b2 b4 b6 m p0 s (.int .i64 op) n l (ps.set c.toNat ⟨i, if op = 4 ∧ k = 1 then vars + 1 else vars, true⟩) := by
      by_cases hop : op = 4 ∧ k = 1
      · obtain ⟨e6, r6, k6, a6⟩ := kid_R17 (call := callOf c06) (lf := lf) (env := e5) (p := ⟨i, vars, true⟩) (k15.1.2.1.trans h3) h10' hH4.h2 hH4.h1 hH4.hm (by omega) (by rw [List.getElem?_set_self hcm]) hv0 hv1
        refine ⟨e6, _, Eq.trans ?_ r6, k6, a6, ?_⟩
        · rw [show cAt Try.f30 (pK ++ [1, 1, 0, 0, 1, 1, 1, 1]) = .cond (.tmp 143) (cAt Try.f30 (pK ++ [1, 1, 0, 0, 1, 1, 1, 1, 0])) .skip from rfl, evCode_cond]
          simp only [evA, c5, hop, and_self, decide_true]
        · rw [if_pos hop]
          have := hH4.put (ps' := (ps.set c.toNat ⟨i, vars, true⟩).set c.toNat ⟨i, vars + 1, true⟩) n2 n4 n6 (by simp)
          simpa using this
      · refine ⟨e5, (H.push o).set b1 (.cells true 3 (flatP (ps.set c.toNat ⟨i, vars, true⟩))), ?_, ⟨keepO.refl _, rfl, rfl, rfl, rfl, rfl⟩, rfl, ?_⟩
        · rw [show cAt Try.f30 (pK ++ [1, 1, 0, 0, 1, 1, 1, 1]) = .cond (.tmp 143) (cAt Try.f30 (pK ++ [1, 1, 0, 0, 1, 1, 1, 1, 0])) .skip from rfl, evCode_cond]
          simp only [evA, c5, hop, decide_false]
          rfl
        · rw [if_neg hop]; exact hH4
    obtain ⟨e6, H6, r6, k6, a6, hH6⟩ := fin
    obtain ⟨e7, r7, k7, a7⟩ := kid_R18 (call := callOf c06) (lf := lf) (env := e6) (H := H6) (a6.trans h98') hkb
    refine ⟨e7, H6, ?_, (k15.trans k6).trans k7, a7, hH6⟩
    have hin : evCode Try.prog (callOf c06) lf 158 none (cAt Try.f30 (pK ++ [1, 1, 0, 0])) e1 [] H = some (.normal, e6, [], H6) := by
      rw [ev_then (c := cAt Try.f30 (pK ++ [1, 1, 0, 0])) (b := cAt Try.f30 (pK ++ [1, 1, 0, 0, 1])) rfl r2, ev_then (c := cAt Try.f30 (pK ++ [1, 1, 0, 0, 1])) (b := cAt Try.f30 (pK ++ [1, 1, 0, 0, 1, 1])) rfl r3,
        ev_then (c := cAt Try.f30 (pK ++ [1, 1, 0, 0, 1, 1])) (b := cAt Try.f30 (pK ++ [1, 1, 0, 0, 1, 1, 1])) rfl r4, ev_then (c := cAt Try.f30 (pK ++ [1, 1, 0, 0, 1, 1, 1])) (b := cAt Try.f30 (pK ++ [1, 1, 0, 0, 1, 1, 1, 1])) rfl r5, r6]
    have hbl : evCode Try.prog (callOf c06) lf 158 none (cAt Try.f30 (pK ++ [1, 1, 0])) e1 [] H = some (.normal, e6, [], H6) := by
      rw [show cAt Try.f30 (pK ++ [1, 1, 0]) = .block 3 (cAt Try.f30 (pK ++ [1, 1, 0, 0])) from rfl, evCode_block, hin]
    rw [ev_then (c := cAt Try.f30 pK) (b := cAt Try.f30 (pK ++ [1])) rfl r1, ev_then (c := cAt Try.f30 (pK ++ [1])) (b := cAt Try.f30 (pK ++ [1, 1])) rfl hcond, ev_then (c := cAt Try.f30 (pK ++ [1, 1])) (b := cAt Try.f30 (pK ++ [1, 1, 1])) rfl hbl, r7]
  · intro hbad
    rw [if_neg hbad] at r3
    refine ⟨e3, H.push o, ?_, hH3.ext⟩
    have hin : evCode Try.prog (callOf c06) lf 158 none (cAt Try.f30 (pK ++ [1, 1, 0, 0])) e1 [] H = some (.panic (.iface 89 (.int .i64 i)), e3, [], H.push o) := by
      rw [ev_then (c := cAt Try.f30 (pK ++ [1, 1, 0, 0])) (b := cAt Try.f30 (pK ++ [1, 1, 0, 0, 1])) rfl r2]
      exact ev_stop (c := cAt Try.f30 (pK ++ [1, 1, 0, 0, 1])) (b := cAt Try.f30 (pK ++ [1, 1, 0, 0, 1, 1])) rfl r3 (by simp)
    have hbl : evCode Try.prog (callOf c06) lf 158 none (cAt Try.f30 (pK ++ [1, 1, 0])) e1 [] H = some (.panic (.iface 89 (.int .i64 i)), e3, [], H.push o) := by
      rw [show cAt Try.f30 (pK ++ [1, 1, 0]) = .block 3 (cAt Try.f30 (pK ++ [1, 1, 0, 0])) from rfl, evCode_block, hin]
    rw [ev_then (c := cAt Try.f30 pK) (b := cAt Try.f30 (pK ++ [1])) rfl r1, ev_then (c := cAt Try.f30 (pK ++ [1])) (b := cAt Try.f30 (pK ++ [1, 1])) rfl hcond]
    exact ev_stop (c := cAt Try.f30 (pK ++ [1, 1])) (b := cAt Try.f30 (pK ++ [1, 1, 1])) rfl hbl (by simp)
end Go.Proofs.Ytpopkajkekceiaa

namespace Go.Proofs.Ytpopkajkekceiaa
open Go Go.Abs
set_option maxRecDepth 100000
set_option linter.unusedSimpArgs false
set_option linter.unusedVariables false

theorem kids_loop {lf : Nat} {H0 : Heap} {b1 b2 b4 b6 i m : Nat} {op vars : Int} {p0 s n l : Value} {es : Nat} {xs : List (List Value)} {ll : List Int}
    (n2 : b2 ≠ b1) (n4 : b4 ≠ b1) (n6 : b6 ≠ b1) (hs : rdS H0 es s = some xs) (hl : rdInts H0 .i64 l = some ll) (hlen : xs.length = m) (hb : m ≤ 200) (hi : i < 200) (hv0 : 0 ≤ vars) (hv1 : vars ≤ 64) (hll : ll.length < 1099511627776) :
    ∀ (rest : List Int) (k mf : Nat) (ps : List Pl) (env : Env) (H : Heap), ll.drop k = rest → k + rest.length = ll.length → rest.length < mf → KHeap H0 H b1 b2 b4 b6 m p0 s (.int .i64 op) n l ps →
      env.val 3 = .pointer (some ⟨b2, 0, none⟩) → env.val 5 = .int .i64 i → env.val 6 = .pointer (some ⟨b6, 0, none⟩) → env.val 8 = .int .i64 vars → env.val 96 = l → env.val 97 = .int .i64 ll.length → env.val 98 = .int .i64 k →
      (∀ ps', lookKids m i op vars k rest ps = some ps' → ∃ env' H', evLoop Try.prog (callOf c06) lf 158 none (cAt Try.f30 pK) mf env [] H = some (.exit 2, env', [], H') ∧ keepI env env' ∧ KHeap H0 H' b1 b2 b4 b6 m p0 s (.int .i64 op) n l ps') ∧
      (lookKids m i op vars k rest ps = none → ∃ env' H', evLoop Try.prog (callOf c06) lf 158 none (cAt Try.f30 pK) mf env [] H = some (.panic (.iface 89 (.int .i64 i)), env', [], H') ∧ Ext H0 H') := by
  intro rest
  induction rest with
  | nil =>
    intro k mf ps env H hd hkl hmf hH h3 h5 h6 h8 h96 h97 h98
    simp at hkl
    obtain ⟨mf, rfl⟩ : ∃ q, mf = q + 1 := ⟨mf - 1, by simp at hmf; omega⟩
    obtain ⟨e', r, k'⟩ := kid_exit (call := callOf c06) (lf := lf) (H := H) h97 h98 (by omega)
    refine ⟨fun ps' hp => ?_, fun hp => by simp [lookKids] at hp⟩
    simp only [lookKids, Option.some.injEq] at hp
    subst hp
    exact ⟨e', H, by rw [evLoop_succ, r], k', hH⟩
  | cons c rest ih =>
    intro k mf ps env H hd hkl hmf hH h3 h5 h6 h8 h96 h97 h98
    have hk : ll[k]? = some c := by
      have : (ll.drop k)[0]? = some c := by rw [hd]; rfl
      simpa using this
    have hd' : ll.drop (k + 1) = rest := by
      have : (ll.drop k).drop 1 = rest := by rw [hd]; rfl
      rwa [List.drop_drop] at this
    simp only [List.length_cons] at hkl hmf
    obtain ⟨mf, rfl⟩ : ∃ q, mf = q + 1 := ⟨mf - 1, by omega⟩
    obtain ⟨hgood, hbad⟩ := kid_step (lf := lf) hH n2 n4 n6 hs hl hlen hb hi hv0 hv1 h3 h5 h6 h8 h96 h97 h98 hk (by omega)
    by_cases hc : ((i : Int) + 1 ≤ c ∧ c ≤ (m : Int) - 1) ∧ (ps[c.toNat]?).map (·.has) = some false
    · obtain ⟨e', H', r, ke, h98', hH'⟩ := hgood hc
      obtain ⟨i1, i2⟩ := ih (k + 1) mf _ e' H' hd' (by omega) (by omega) hH' (ke.1.2.1.trans h3) (ke.2.1.trans h5) (ke.2.2.1.trans h6) (ke.2.2.2.1.trans h8) (ke.2.2.2.2.1.trans h96) (ke.2.2.2.2.2.trans h97) h98'
      obtain ⟨hc1, hc2⟩ := hc
      obtain ⟨p, hp, hph⟩ := Option.map_eq_some_iff.1 hc2
      have hstep : lookKids m i op vars k (c :: rest) ps = lookKids m i op vars (k + 1) rest (ps.set c.toNat ⟨i, if op = 4 ∧ k = 1 then vars + 1 else vars, true⟩) := by
        simp only [lookKids]
        rw [if_pos hc1, hp]
        simp [hph]
      rw [hstep]
      constructor
      · intro ps' hp'
        obtain ⟨e2, H2, r2, k2, hH2⟩ := i1 ps' hp'
        exact ⟨e2, H2, by rw [evLoop_succ, r]; exact r2, ke.trans k2, hH2⟩
      · intro hp'
        obtain ⟨e2, H2, r2, hx⟩ := i2 hp'
        exact ⟨e2, H2, by rw [evLoop_succ, r]; exact r2, hx⟩
    · obtain ⟨e', H', r, hx⟩ := hbad hc
      have hnone : lookKids m i op vars k (c :: rest) ps = none := by
        simp only [lookKids]
        by_cases hc1 : (i : Int) + 1 ≤ c ∧ c ≤ (m : Int) - 1
        · rw [if_pos hc1]
          cases hp : ps[c.toNat]? with
          | none => rfl
          | some p =>
            cases hph : p.has with
            | true => simp [hph]
            | false => exact absurd ⟨hc1, by rw [hp]; simp [hph]⟩ hc
        · rw [if_neg hc1]
      refine ⟨fun ps' hp' => by rw [hnone] at hp'; exact (nomatch hp'), fun _ => ⟨e', H', by rw [evLoop_succ, r], hx⟩⟩
end Go.Proofs.Ytpopkajkekceiaa

namespace Go.Proofs.Ytpopkajkekceiaa
open Go Go.Abs
set_option maxRecDepth 100000
set_option linter.unusedSimpArgs false
set_option linter.unusedVariables false

/-- The heap between two nodes. -/
structure OHeap (H0 H : Heap) (b1 b2 b4 m : Nat) (p0 s : Value) (ps : List Pl) : Prop where
  wf : H.Wf
  ext : Ext H0 H
  h0 : H0.get b1 = none
  h1 : H.get b1 = some (.cells true 3 (flatP ps))
  h2 : H.get b2 = some (.cells true 3 [p0, s, .slice (some ⟨b1, 0, none⟩) m m])
  h4 : H.get b4 = some (.cells true 75 shapesL)
  hm : ps.length = m

theorem ext_none {H0 H : Heap} (hx : Ext H0 H) (hw : H.Wf) : H0.get H.next = none := by
  cases h : H0.get H.next with
  | none => rfl
  | some ob => have := hx _ _ h; rw [hw _ (Nat.le_refl _)] at this; cases this

theorem OHeap.fresh {H0 H : Heap} {b1 b2 b4 m : Nat} {p0 s : Value} {ps : List Pl} (h : OHeap H0 H b1 b2 b4 m p0 s ps) (z : AObj) (op n l : Value) :
    KHeap H0 ((H.push z).set H.next (.cells true 3 [op, n, l])) b1 b2 b4 H.next m p0 s op n l ps := by
  have k1 := Nat.ne_of_lt (h.wf.lt h.h1)
  have k2 := Nat.ne_of_lt (h.wf.lt h.h2)
  have k4 := Nat.ne_of_lt (h.wf.lt h.h4)
  exact ⟨(h.wf.push z).set (by simp) _, (h.ext.to_push h.wf z).to_set (ext_none h.ext h.wf) _, h.h0, by rw [get_set_ne k1, get_push_ne k1]; exact h.h1, by rw [get_set_ne k2, get_push_ne k2]; exact h.h2,
    by rw [get_set_ne k4, get_push_ne k4]; exact h.h4, get_set_self _ _ _, h.hm⟩
theorem KHeap.fresh {H0 H : Heap} {b1 b2 b4 b6 m : Nat} {p0 s op n l : Value} {ps : List Pl} (h : KHeap H0 H b1 b2 b4 b6 m p0 s op n l ps) (z o : AObj) : KHeap H0 ((H.push z).set H.next o) b1 b2 b4 b6 m p0 s op n l ps := by
  have k1 := Nat.ne_of_lt (h.wf.lt h.h1)
  have k2 := Nat.ne_of_lt (h.wf.lt h.h2)
  have k4 := Nat.ne_of_lt (h.wf.lt h.h4)
  have k6 := Nat.ne_of_lt (h.wf.lt h.h6)
  exact ⟨(h.wf.push z).set (by simp) _, (h.ext.to_push h.wf z).to_set (ext_none h.ext h.wf) _, h.h0, by rw [get_set_ne k1, get_push_ne k1]; exact h.h1, by rw [get_set_ne k2, get_push_ne k2]; exact h.h2,
    by rw [get_set_ne k4, get_push_ne k4]; exact h.h4, by rw [get_set_ne k6, get_push_ne k6]; exact h.h6, h.hm⟩
theorem KHeap.toO {H0 H : Heap} {b1 b2 b4 b6 m : Nat} {p0 s op n l : Value} {ps : List Pl} (h : KHeap H0 H b1 b2 b4 b6 m p0 s op n l ps) : OHeap H0 H b1 b2 b4 m p0 s ps :=
  ⟨h.wf, h.ext, h.h0, h.h1, h.h2, h.h4, h.hm⟩

theorem node_exit {call : CallF} {lf : Nat} {env : Env} {H : Heap} {i n : Nat} (h41 : env.val 41 = .int .i64 n) (h42 : env.val 42 = .int .i64 i) (hk : n ≤ i) :
    ∃ env', evCode Try.prog call lf 158 none (cAt Try.f30 pL) env [] H = some (.exit 0, env', [], H) ∧ env'.val 3 = env.val 3 := by
  have hc : ¬ ((i : Int) < (n : Int)) := by omega
  generalize hr : evCode Try.prog call lf 158 none (cAt Try.f30 pL) env [] H = out
  simp [pL, Try.f30, h41, h42, hc] at hr
  subst hr
  exact ⟨_, rfl, by simp⟩
theorem node_R6 {call : CallF} {lf : Nat} {env : Env} {H : Heap} {i n : Nat} (h41 : env.val 41 = .int .i64 n) (h42 : env.val 42 = .int .i64 i) (hk : i < n) :
    ∃ env', evCode Try.prog call lf 158 none (cAt Try.f30 (pL ++ [0])) env [] H = some (.normal, env', [], H) ∧ keepO env env' ∧ env'.val 43 = .bool true := by
  have hc : ((i : Int) < (n : Int)) := by omega
  generalize hr : evCode Try.prog call lf 158 none (cAt Try.f30 (pL ++ [0])) env [] H = out
  simp [pL, Try.f30, h41, h42, hc] at hr
  subst hr
  exact ⟨_, rfl, by simp [keepO, h41, h42]⟩
theorem node_R19 {call : CallF} {lf : Nat} {env : Env} {H : Heap} {i : Nat} (h42 : env.val 42 = .int .i64 i) (hk : i < 1099511627776) :
    ∃ env', evCode Try.prog call lf 158 none (cAt Try.f30 (pL ++ [1, 1, 1])) env [] H = some (.normal, env', [], H) ∧ env'.val 1 = env.val 1 ∧ env'.val 3 = env.val 3 ∧ env'.val 4 = env.val 4 ∧ env'.val 40 = env.val 40 ∧ env'.val 41 = env.val 41 ∧ env'.val 42 = .int .i64 ((i + 1 : Nat) : Int) := by
  have w1 : IntKind.i64.wrap ((i : Int) + 1) = (i : Int) + 1 := wrapI (by omega) (by omega)
  generalize hr : evCode Try.prog call lf 158 none (cAt Try.f30 (pL ++ [1, 1, 1])) env [] H = out
  simp [pL, Try.f30, h42, w1] at hr
  subst hr
  exact ⟨_, rfl, by simp⟩
end Go.Proofs.Ytpopkajkekceiaa

namespace Go.Proofs.Ytpopkajkekceiaa
open Go Go.Abs
set_option maxRecDepth 100000
set_option linter.unusedSimpArgs false
set_option linter.unusedVariables false

/-- One node, plainly. -/
def nodeStep (m i : Nat) (x : NodeD) (ps : List Pl) : Option (List Pl) := match ps[i]? with
  | some p => if p.has = true ∧ 0 ≤ x.op ∧ x.op ≤ 24 then
      if numberOk (shapeOf x.op.toNat).1 x.n p.vars = true ∧ withinL [x.l.length, (shapeOf x.op.toNat).2.1, (shapeOf x.op.toNat).2.2, p.vars, 0, 64] = true then
        lookKids m i x.op p.vars 0 x.l ps
      else none
    else none
  | none => none

/-- What a round of the outer loop leaves in the environment. -/
def keepP (env env' : Env) : Prop := env'.val 1 = env.val 1 ∧ env'.val 3 = env.val 3 ∧ env'.val 4 = env.val 4 ∧ env'.val 40 = env.val 40 ∧ env'.val 41 = env.val 41

theorem node_body {lf : Nat} {env : Env} {H0 H : Heap} {b1 b2 b4 i m : Nat} {x : NodeD} {p0 s l : Value} {ps : List Pl} {p : Pl} {xs : List (List Value)}
    (hH : OHeap H0 H b1 b2 b4 m p0 s ps) (n2 : b2 ≠ b1) (n4 : b4 ≠ b1) (hs : rdS H0 3 s = some xs) (hx : xs[i]? = some [.int .i64 x.op, .int .i64 x.n, l]) (hsm : smallN l = true) (hl : rdInts H0 .i64 l = some x.l) (hlen : xs.length = m) (hb : m ≤ 200) (hi : i < 200) (hp : ps[i]? = some p) (hll : x.l.length < 1099511627776) (hlf : x.l.length < lf)
    (h3 : env.val 3 = .pointer (some ⟨b2, 0, none⟩)) (h4 : env.val 4 = .pointer (some ⟨b4, 0, none⟩)) (h40 : env.val 40 = s) (h42 : env.val 42 = .int .i64 i) :
    (∀ ps', nodeStep m i x ps = some ps' → ∃ env' H', evCode Try.prog (callOf c06) lf 158 none (cAt Try.f30 pB) env [] H = some (.normal, env', [], H') ∧ keepO env env' ∧ OHeap H0 H' b1 b2 b4 m p0 s ps') ∧
    (nodeStep m i x ps = none → ∃ env' H', evCode Try.prog (callOf c06) lf 158 none (cAt Try.f30 pB) env [] H = some (.panic (.iface 89 (.int .i64 i)), env', [], H') ∧ Ext H0 H') := by
  have hl1 := (rdS_one (rdInts_rd hl)).2.1
  obtain ⟨e7, r7, a1, a3, a4, a40, a41, a42, a5, a6⟩ := looked_R7 (call := callOf c06) (lf := lf) (env := env) (H := H) h40 h42 (rdS_ext hH.ext hs) hx hl1
  have hK := hH.fresh (.cells true 3 [.int .i64 0, .int .i64 0, .slice none 0 0]) (.int .i64 x.op) (.int .i64 x.n) l
  have k7 : keepO env e7 := ⟨a1, a3, a4, a40, a41, a42⟩
  have n6 : H.next ≠ b1 := fun e => Nat.lt_irrefl _ (e ▸ hH.wf.lt hH.h1)
  generalize hHa : (H.push (.cells true 3 [.int .i64 0, .int .i64 0, .slice none 0 0])).set H.next (.cells true 3 [.int .i64 x.op, .int .i64 x.n, l]) = Ha at *
  generalize H.next = b6 at *
  obtain ⟨e8, H8, r8, o8, c1, c3, c4, c40, c41, c42, c5, c6⟩ := looked_R8 (lf := lf) (env := e7) (H := Ha) (i := i) (p := p) (a3.trans h3) a5 a6 hK.h2 hK.h1 hK.hm hp hK.h6
  have k8 : keepO env e8 := k7.trans ⟨c1, c3, c4, c40, c41, c42⟩
  have hK8 : KHeap H0 H8 b1 b2 b4 b6 m p0 s (.int .i64 x.op) (.int .i64 x.n) l ps := by
    rcases o8 with rfl | ⟨o, rfl⟩
    · exact hK
    · exact hK.push o
  have s0 := fun (e' : Env) (r : AExit) (Hx : Heap) (h : evCode Try.prog (callOf c06) lf 158 none (cAt Try.f30 (pB ++ [1])) e7 [] Ha = some (r, e', [], Hx)) =>
    (ev_then (c := cAt Try.f30 pB) (b := cAt Try.f30 (pB ++ [1])) rfl r7).trans h
  have hns : nodeStep m i x ps = if p.has = true ∧ 0 ≤ x.op ∧ x.op ≤ 24 then
      if numberOk (shapeOf x.op.toNat).1 x.n p.vars = true ∧ withinL [x.l.length, (shapeOf x.op.toNat).2.1, (shapeOf x.op.toNat).2.2, p.vars, 0, 64] = true then
        lookKids m i x.op p.vars 0 x.l ps
      else none
    else none := by unfold nodeStep; rw [hp]
  rw [hns]
  by_cases hc1 : p.has = true ∧ 0 ≤ x.op ∧ x.op ≤ 24
  · rw [if_pos hc1] at r8 ⊢
    obtain ⟨e9, r9, d1, d3, d4, d40, d41, d42, d5, d6, d7, d8⟩ := looked_R9 (call := callOf c06) (lf := lf) (env := e8) (H := H8) (i := i) (p := p) hK8.wf (k8.2.1.trans h3) (k8.2.2.1.trans h4) (c5.trans a5) (c6.trans a6) hK8.h2 hK8.h1 hK8.hm hp hK8.h6 hK8.h4 hc1.2.1 hc1.2.2
    have k9 : keepO env e9 := k8.trans ⟨d1, d3, d4, d40, d41, d42⟩
    have hK9 := hK8.fresh (.cells true 3 [.nilFunc, .int .i64 0, .int .i64 0]) (.cells true 3 [.func (.func (shapeOf x.op.toNat).1) #[] #[], .int .i64 (shapeOf x.op.toNat).2.1, .int .i64 (shapeOf x.op.toNat).2.2])
    have hb7 := get_set_self (H8.push (.cells true 3 [.nilFunc, .int .i64 0, .int .i64 0])) H8.next (.cells true 3 [.func (.func (shapeOf x.op.toNat).1) #[] #[], .int .i64 (shapeOf x.op.toNat).2.1, .int .i64 (shapeOf x.op.toNat).2.2])
    obtain ⟨e10, H10, r10, o10, f1, f3, f4, f40, f41, f42, f5, f6, f8⟩ := looked_R10 (lf := lf) (env := e9) (i := i) (d5.trans (c5.trans a5)) (d6.trans (c6.trans a6)) d7 d8 hK9.h6 hb7 (shape_fn _) (rdInts_ext hK9.ext hl)
    have k10 : keepO env e10 := k9.trans ⟨f1, f3, f4, f40, f41, f42⟩
    have hK10 : KHeap H0 H10 b1 b2 b4 b6 m p0 s (.int .i64 x.op) (.int .i64 x.n) l ps := by
      rcases o10 with rfl | ⟨o, rfl⟩
      · exact hK9
      · exact hK9.push o
    by_cases hc2 : numberOk (shapeOf x.op.toNat).1 x.n p.vars = true ∧ withinL [x.l.length, (shapeOf x.op.toNat).2.1, (shapeOf x.op.toNat).2.2, p.vars, 0, 64] = true
    · rw [if_pos hc2] at r10 ⊢
      obtain ⟨e11, r11, g1, g3, g4, g40, g41, g42, g5, g6, g8, g96, g97, g98⟩ := looked_R11 (call := callOf c06) (lf := lf) (env := e10) (H := H10) (f6.trans (d6.trans (c6.trans a6))) hK10.h6 (rdInts_ext hK10.ext hl)
      have k11 : keepO env e11 := k10.trans ⟨g1, g3, g4, g40, g41, g42⟩
      have hvb : 0 ≤ p.vars ∧ p.vars ≤ 64 := by
        have := hc2.2
        simp only [withinL] at this
        split at this
        · cases this
        · split at this
          · cases this
          · omega
      have hloop := kids_loop (lf := lf) n2 n4 n6 hs hl hlen hb hi hvb.1 hvb.2 hll x.l 0 lf ps e11 H10 (by simp) (by simp) hlf hK10 (k11.2.1.trans h3) (g5.trans (f5.trans (d5.trans (c5.trans a5)))) (g6.trans (f6.trans (d6.trans (c6.trans a6)))) (g8.trans (f8.trans d8)) g96 g97 g98
      have chain : ∀ out, evCode Try.prog (callOf c06) lf 158 none (cAt Try.f30 (pB ++ [1, 1, 1, 1, 1])) e11 [] H10 = out → evCode Try.prog (callOf c06) lf 158 none (cAt Try.f30 pB) env [] H = out := by
        intro out h
        rw [ev_then (c := cAt Try.f30 pB) (b := cAt Try.f30 (pB ++ [1])) rfl r7, ev_then (c := cAt Try.f30 (pB ++ [1])) (b := cAt Try.f30 (pB ++ [1, 1])) rfl r8, ev_then (c := cAt Try.f30 (pB ++ [1, 1])) (b := cAt Try.f30 (pB ++ [1, 1, 1])) rfl r9,
          ev_then (c := cAt Try.f30 (pB ++ [1, 1, 1])) (b := cAt Try.f30 (pB ++ [1, 1, 1, 1])) rfl r10, ev_then (c := cAt Try.f30 (pB ++ [1, 1, 1, 1])) (b := cAt Try.f30 (pB ++ [1, 1, 1, 1, 1])) rfl r11, h]
      have hblk : evCode Try.prog (callOf c06) lf 158 none (cAt Try.f30 (pB ++ [1, 1, 1, 1, 1])) e11 [] H10 = match evLoop Try.prog (callOf c06) lf 158 none (cAt Try.f30 pK) lf e11 [] H10 with
          | some (.exit id', env', ds', H') => if id' = 2 then some (.normal, env', ds', H') else some (.exit id', env', ds', H')
          | r => r := by
        rw [show cAt Try.f30 (pB ++ [1, 1, 1, 1, 1]) = .block 2 (.loop (cAt Try.f30 pK)) from rfl, evCode_block, evCode_loop]
        rfl
      constructor
      · intro ps' hps
        obtain ⟨e12, H12, r12, k12, hK12⟩ := hloop.1 ps' hps
        refine ⟨e12, H12, chain _ ?_, k11.trans k12.1, hK12.toO⟩
        rw [hblk, r12]; rfl
      · intro hps
        obtain ⟨e12, H12, r12, hx12⟩ := hloop.2 hps
        refine ⟨e12, H12, chain _ ?_, hx12⟩
        rw [hblk, r12]
    · rw [if_neg hc2] at r10 ⊢
      refine ⟨(fun ps' h => nomatch h), fun _ => ⟨e10, H10, ?_, hK10.ext⟩⟩
      rw [ev_then (c := cAt Try.f30 pB) (b := cAt Try.f30 (pB ++ [1])) rfl r7, ev_then (c := cAt Try.f30 (pB ++ [1])) (b := cAt Try.f30 (pB ++ [1, 1])) rfl r8, ev_then (c := cAt Try.f30 (pB ++ [1, 1])) (b := cAt Try.f30 (pB ++ [1, 1, 1])) rfl r9]
      exact ev_stop (c := cAt Try.f30 (pB ++ [1, 1, 1])) (b := cAt Try.f30 (pB ++ [1, 1, 1, 1])) rfl r10 (by simp)
  · rw [if_neg hc1] at r8 ⊢
    refine ⟨(fun ps' h => nomatch h), fun _ => ⟨e8, H8, ?_, hK8.ext⟩⟩
    rw [ev_then (c := cAt Try.f30 pB) (b := cAt Try.f30 (pB ++ [1])) rfl r7]
    exact ev_stop (c := cAt Try.f30 (pB ++ [1])) (b := cAt Try.f30 (pB ++ [1, 1])) rfl r8 (by simp)
end Go.Proofs.Ytpopkajkekceiaa

namespace Go.Proofs.Ytpopkajkekceiaa
open Go Go.Abs
set_option maxRecDepth 100000
set_option linter.unusedSimpArgs false
set_option linter.unusedVariables false

theorem lookFrom_cons (m i : Nat) (x : NodeD) (rest : List NodeD) (ps : List Pl) : lookFrom m i (x :: rest) ps = match nodeStep m i x ps with
    | some ps' => lookFrom m (i + 1) rest ps'
    | none => .error i := by
  simp only [lookFrom, nodeStep]
  cases ps[i]? with
  | none => rfl
  | some p =>
    simp only
    split
    · split
      · cases lookKids m i x.op p.vars 0 x.l ps <;> rfl
      · rfl
    · rfl

theorem lookKids_length {m i : Nat} {op vars : Int} : ∀ (l : List Int) (k : Nat) (ps ps' : List Pl), lookKids m i op vars k l ps = some ps' → ps'.length = ps.length
  | [], k, ps, ps', h => by simp only [lookKids, Option.some.injEq] at h; rw [h]
  | c :: cs, k, ps, ps', h => by
    simp only [lookKids] at h
    split at h
    · split at h
      · split at h
        · cases h
        · have := lookKids_length cs _ _ _ h; simpa using this
      · cases h
    · cases h
theorem nodeStep_length {m i : Nat} {x : NodeD} {ps ps' : List Pl} (h : nodeStep m i x ps = some ps') : ps'.length = ps.length := by
  unfold nodeStep at h
  split at h
  · split at h
    · split at h
      · exact lookKids_length _ _ _ _ h
      · cases h
    · cases h
  · cases h

/-- A round of the outer loop. -/
theorem node_step {lf : Nat} {env : Env} {H0 H : Heap} {b1 b2 b4 i m : Nat} {x : NodeD} {p0 s l : Value} {ps : List Pl} {xs : List (List Value)}
    (hH : OHeap H0 H b1 b2 b4 m p0 s ps) (n2 : b2 ≠ b1) (n4 : b4 ≠ b1) (hs : rdS H0 3 s = some xs) (hx : xs[i]? = some [.int .i64 x.op, .int .i64 x.n, l]) (hsm : smallN l = true) (hl : rdInts H0 .i64 l = some x.l) (hlen : xs.length = m) (hb : m ≤ 200) (hll : x.l.length < 1099511627776) (hlf : x.l.length < lf)
    (h3 : env.val 3 = .pointer (some ⟨b2, 0, none⟩)) (h4 : env.val 4 = .pointer (some ⟨b4, 0, none⟩)) (h40 : env.val 40 = s) (h41 : env.val 41 = .int .i64 m) (h42 : env.val 42 = .int .i64 i) :
    (∀ ps', nodeStep m i x ps = some ps' → ∃ env' H', evCode Try.prog (callOf c06) lf 158 none (cAt Try.f30 pL) env [] H = some (.normal, env', [], H') ∧ keepP env env' ∧ env'.val 42 = .int .i64 ((i + 1 : Nat) : Int) ∧ OHeap H0 H' b1 b2 b4 m p0 s ps') ∧
    (nodeStep m i x ps = none → ∃ env' H', evCode Try.prog (callOf c06) lf 158 none (cAt Try.f30 pL) env [] H = some (.panic (.iface 89 (.int .i64 i)), env', [], H') ∧ Ext H0 H') := by
  have hi := (List.getElem?_eq_some_iff.1 hx).1
  obtain ⟨p, hp⟩ : ∃ p, ps[i]? = some p := ⟨_, List.getElem?_eq_getElem (by have := hH.hm; omega)⟩
  obtain ⟨e1, r1, k1, c1⟩ := node_R6 (call := callOf c06) (lf := lf) (H := H) h41 h42 (by omega)
  have hcond : evCode Try.prog (callOf c06) lf 158 none (cAt Try.f30 (pL ++ [1, 0])) e1 [] H = some (.normal, e1, [], H) := by
    simp [pL, Try.f30, c1]
  obtain ⟨hgood, hbad⟩ := node_body (lf := lf) (env := e1) hH n2 n4 hs hx hsm hl hlen hb (by omega) hp hll hlf (k1.2.1.trans h3) (k1.2.2.1.trans h4) (k1.2.2.2.1.trans h40) (k1.2.2.2.2.2.trans h42)
  have hblk : ∀ e, evCode Try.prog (callOf c06) lf 158 none (cAt Try.f30 (pL ++ [1, 1, 0])) e [] H = match evCode Try.prog (callOf c06) lf 158 none (cAt Try.f30 pB) e [] H with
      | some (.exit id', env', ds', H') => if id' = 1 then some (.normal, env', ds', H') else some (.exit id', env', ds', H')
      | r => r := by
    intro e
    rw [show cAt Try.f30 (pL ++ [1, 1, 0]) = .block 1 (cAt Try.f30 pB) from rfl, evCode_block]
    rfl
  constructor
  · intro ps' hps
    obtain ⟨e2, H2, r2, k2, hH2⟩ := hgood ps' hps
    have k12 := k1.trans k2
    obtain ⟨e3, r3, a1, a3, a4, a40, a41, a42⟩ := node_R19 (call := callOf c06) (lf := lf) (env := e2) (H := H2) (k12.2.2.2.2.2.trans h42) (by omega)
    have hb1 : evCode Try.prog (callOf c06) lf 158 none (cAt Try.f30 (pL ++ [1, 1, 0])) e1 [] H = some (.normal, e2, [], H2) := by rw [hblk, r2]
    refine ⟨e3, H2, ?_, ⟨a1.trans k12.1, a3.trans k12.2.1, a4.trans k12.2.2.1, a40.trans k12.2.2.2.1, a41.trans k12.2.2.2.2.1⟩, a42, hH2⟩
    rw [ev_then (c := cAt Try.f30 pL) (b := cAt Try.f30 (pL ++ [1])) rfl r1, ev_then (c := cAt Try.f30 (pL ++ [1])) (b := cAt Try.f30 (pL ++ [1, 1])) rfl hcond, ev_then (c := cAt Try.f30 (pL ++ [1, 1])) (b := cAt Try.f30 (pL ++ [1, 1, 1])) rfl hb1, r3]
  · intro hps
    obtain ⟨e2, H2, r2, hx2⟩ := hbad hps
    have hb1 : evCode Try.prog (callOf c06) lf 158 none (cAt Try.f30 (pL ++ [1, 1, 0])) e1 [] H = some (.panic (.iface 89 (.int .i64 i)), e2, [], H2) := by rw [hblk, r2]
    refine ⟨e2, H2, ?_, hx2⟩
    rw [ev_then (c := cAt Try.f30 pL) (b := cAt Try.f30 (pL ++ [1])) rfl r1, ev_then (c := cAt Try.f30 (pL ++ [1])) (b := cAt Try.f30 (pL ++ [1, 1])) rfl hcond]
    exact ev_stop (c := cAt Try.f30 (pL ++ [1, 1])) (b := cAt Try.f30 (pL ++ [1, 1, 1])) rfl hb1 (by simp)

/-- The outer loop. -/
theorem nodes_loop {lf : Nat} {H0 : Heap} {b1 b2 b4 m : Nat} {p0 s : Value} {xs : List (List Value)} {nodes : List NodeD}
    (n2 : b2 ≠ b1) (n4 : b4 ≠ b1) (hs : rdS H0 3 s = some xs) (hlen : xs.length = m) (hb : m ≤ 200)
    (hx : ∀ (i : Nat) x, nodes[i]? = some x → ∃ s', xs[i]? = some [.int .i64 x.op, .int .i64 x.n, s'] ∧ smallN s' = true ∧ rdInts H0 .i64 s' = some x.l)
    (hll : ∀ x ∈ nodes, x.l.length < 1099511627776 ∧ x.l.length < lf) (hn : nodes.length = m) :
    ∀ (rest : List NodeD) (i mf : Nat) (ps : List Pl) (env : Env) (H : Heap), nodes.drop i = rest → i + rest.length = m → rest.length < mf → OHeap H0 H b1 b2 b4 m p0 s ps →
      env.val 3 = .pointer (some ⟨b2, 0, none⟩) → env.val 4 = .pointer (some ⟨b4, 0, none⟩) → env.val 40 = s → env.val 41 = .int .i64 m → env.val 42 = .int .i64 i →
      (∀ ps', lookFrom m i rest ps = .ok ps' → ∃ env' H', evLoop Try.prog (callOf c06) lf 158 none (cAt Try.f30 pL) mf env [] H = some (.exit 0, env', [], H') ∧ env'.val 3 = env.val 3 ∧ OHeap H0 H' b1 b2 b4 m p0 s ps') ∧
      (∀ j, lookFrom m i rest ps = .error j → ∃ env' H', evLoop Try.prog (callOf c06) lf 158 none (cAt Try.f30 pL) mf env [] H = some (.panic (.iface 89 (.int .i64 j)), env', [], H') ∧ Ext H0 H') := by
  intro rest
  induction rest with
  | nil =>
    intro i mf ps env H hd hil hmf hH h3 h4 h40 h41 h42
    simp at hil
    obtain ⟨mf, rfl⟩ : ∃ q, mf = q + 1 := ⟨mf - 1, by simp at hmf; omega⟩
    obtain ⟨e', r, k'⟩ := node_exit (call := callOf c06) (lf := lf) (H := H) h41 h42 (by omega)
    refine ⟨fun ps' hp => ?_, fun j hp => by simp [lookFrom] at hp⟩
    simp only [lookFrom, Except.ok.injEq] at hp
    subst hp
    exact ⟨e', H, by rw [evLoop_succ, r], k', hH⟩
  | cons x rest ih =>
    intro i mf ps env H hd hil hmf hH h3 h4 h40 h41 h42
    have hk : nodes[i]? = some x := by
      have : (nodes.drop i)[0]? = some x := by rw [hd]; rfl
      simpa using this
    have hd' : nodes.drop (i + 1) = rest := by
      have : (nodes.drop i).drop 1 = rest := by rw [hd]; rfl
      rwa [List.drop_drop] at this
    simp only [List.length_cons] at hil hmf
    obtain ⟨mf, rfl⟩ : ∃ q, mf = q + 1 := ⟨mf - 1, by omega⟩
    obtain ⟨l, g1, g2, g3⟩ := hx i x hk
    obtain ⟨q1, q2⟩ := hll x (List.mem_of_getElem? hk)
    obtain ⟨hgood, hbad⟩ := node_step (lf := lf) hH n2 n4 hs g1 g2 g3 hlen hb q1 q2 h3 h4 h40 h41 h42
    rw [lookFrom_cons]
    cases hst : nodeStep m i x ps with
    | some ps1 =>
      obtain ⟨e', H', r, kp, h42', hH'⟩ := hgood ps1 hst
      obtain ⟨i1, i2⟩ := ih (i + 1) mf ps1 e' H' hd' (by omega) (by omega) hH' (kp.2.1.trans h3) (kp.2.2.1.trans h4) (kp.2.2.2.1.trans h40) (kp.2.2.2.2.trans h41) h42'
      constructor
      · intro ps' hp'
        obtain ⟨e2, H2, r2, k2, hH2⟩ := i1 ps' hp'
        exact ⟨e2, H2, by rw [evLoop_succ, r]; exact r2, k2.trans kp.2.1, hH2⟩
      · intro j hp'
        obtain ⟨e2, H2, r2, hx2⟩ := i2 j hp'
        exact ⟨e2, H2, by rw [evLoop_succ, r]; exact r2, hx2⟩
    | none =>
      obtain ⟨e', H', r, hx2⟩ := hbad hst
      refine ⟨(fun ps' hp' => nomatch hp'), fun j hp' => ?_⟩
      simp only [Except.error.injEq] at hp'
      subst hp'
      exact ⟨e', H', by rw [evLoop_succ, r], hx2⟩
end Go.Proofs.Ytpopkajkekceiaa

namespace Go.Proofs.Ytpopkajkekceiaa
open Go Go.Abs
set_option maxRecDepth 100000
set_option linter.unusedSimpArgs false
set_option linter.unusedVariables false

/-- What a function that is looked at leaves: its places. -/
structure Looked (H' : Heap) (r : CRes) (ps : List Pl) : Prop where
  ret : ∃ b1 b2 p0 s, r = .ret (.pointer (some ⟨b2, 0, none⟩)) ∧ H'.get b2 = some (.cells true 3 [p0, s, .slice (some ⟨b1, 0, none⟩) ps.length ps.length]) ∧ H'.get b1 = some (.cells true 3 (flatP ps))

theorem looked_R20 {call : CallF} {lf : Nat} {env : Env} {H : Heap} :
    ∃ env', evCode Try.prog call lf 158 none (cAt Try.f30 [1, 1, 1, 1, 1, 1, 0]) env [] H = some (.normal, env', [], H) ∧ env'.val 2 = env.val 3 := by
  generalize hr : evCode Try.prog call lf 158 none (cAt Try.f30 [1, 1, 1, 1, 1, 1, 0]) env [] H = out
  simp [Try.f30] at hr
  subst hr
  exact ⟨_, rfl, by simp⟩

/-- **looked.** -/
theorem looked_run {lf : Nat} {H : Heap} {v : Value} {f : FunD} (hw : H.Wf) (hf : rdFun H v = some f) (hlf : f.nodes.length < lf) (hll : ∀ x ∈ f.nodes, x.l.length < 1099511627776 ∧ x.l.length < lf) :
    (∀ i, lookedL f = .error i → ∃ H', evFn Try.prog (callOf c06) lf 30 [v] H = some (.pan (.iface 89 (.int .i64 i)), H') ∧ Ext H H') ∧
    (∀ ps, lookedL f = .ok ps → ∃ r H', evFn Try.prog (callOf c06) lf 30 [v] H = some (r, H') ∧ Ext H H' ∧ Looked H' r ps) := by
  obtain ⟨s, xs, rfl, hsm, hs, hlen, hx⟩ := rdFun_inv hf
  obtain ⟨e1, e2, e3, e4⟩ := rdS_one hs
  obtain ⟨v0, r0, a1⟩ := looked_R0 (call := callOf c06) (lf := lf) (H := H) (p := f.params) e2
  have w1 := hw.push (.cells true 2 [.int .i64 f.params, s])
  have x1 : Ext H (H.push (.cells true 2 [.int .i64 f.params, s])) := Ext.push hw _
  obtain ⟨v1, r1, c1, c3⟩ := looked_R1 (call := callOf c06) (lf := lf) (m := min xs.length 200) w1 a1 (get_push_self _ _) (rdS_ext x1 hs) rfl
  generalize hH1 : H.push (.cells true 2 [.int .i64 f.params, s]) = H1 at *
  have hn1 : H1.next = H.next + 1 := by rw [← hH1]; rfl
  have g0 : H1.get H.next = some (.cells true 2 [.int .i64 f.params, s]) := by rw [← hH1]; exact get_push_self _ _
  have hb1 : H.get H1.next = none := hw _ (by omega)
  have w2 := w1.push (.cells true 3 (flatP (List.replicate (min xs.length 200) ⟨0, 0, false⟩)))
  have x2 := x1.to_push w1 (.cells true 3 (flatP (List.replicate (min xs.length 200) ⟨0, 0, false⟩)))
  have w3 := w2.push (.cells true 3 [.int .i64 f.params, s, .slice (some ⟨H1.next, 0, none⟩) (min xs.length 200) (min xs.length 200)])
  have x3 := x2.to_push w2 (.cells true 3 [.int .i64 f.params, s, .slice (some ⟨H1.next, 0, none⟩) (min xs.length 200) (min xs.length 200)])
  have g3b0 : ∀ z z', ((H1.push z).push z').get H.next = some (.cells true 2 [.int .i64 f.params, s]) := fun z z' => by
    rw [get_push_ne (by simp; omega), get_push_ne (by omega), g0]
  have g3b1 : ∀ z z', ((H1.push z).push z').get H1.next = some z := fun z z' => by
    rw [get_push_ne (by simp), get_push_self]
  have g3b2 : ∀ z z', ((H1.push z).push z').get (H1.next + 1) = some z' := fun z z' => get_push_self (H1.push z) z'
  have k3b0 := g3b0 (.cells true 3 (flatP (List.replicate (min xs.length 200) ⟨0, 0, false⟩))) (.cells true 3 [.int .i64 f.params, s, .slice (some ⟨H1.next, 0, none⟩) (min xs.length 200) (min xs.length 200)])
  have k3b1 := g3b1 (.cells true 3 (flatP (List.replicate (min xs.length 200) ⟨0, 0, false⟩))) (.cells true 3 [.int .i64 f.params, s, .slice (some ⟨H1.next, 0, none⟩) (min xs.length 200) (min xs.length 200)])
  have k3b2 := g3b2 (.cells true 3 (flatP (List.replicate (min xs.length 200) ⟨0, 0, false⟩))) (.cells true 3 [.int .i64 f.params, s, .slice (some ⟨H1.next, 0, none⟩) (min xs.length 200) (min xs.length 200)])
  clear g3b0 g3b1 g3b2
  generalize (H1.push (.cells true 3 (flatP (List.replicate (min xs.length 200) ⟨0, 0, false⟩)))).push (.cells true 3 [.int .i64 f.params, s, .slice (some ⟨H1.next, 0, none⟩) (min xs.length 200) (min xs.length 200)]) = H3 at *
  have hstart : ∀ out, evCode Try.prog (callOf c06) lf 158 none (cAt Try.f30 [1, 1]) v1 [] H3 = out →
      evFn Try.prog (callOf c06) lf 30 [.agg #[.int .i64 f.params, s]] H = fnEnd Try.prog (callOf c06) lf Try.f30 out := by
    intro out h
    rw [evFn_at Try.func30 body30 (by simp), Try.ntmps30, ev_then (c := cAt Try.f30 []) (b := cAt Try.f30 [1]) rfl r0, ev_then (c := cAt Try.f30 [1]) (b := cAt Try.f30 [1, 1]) rfl r1, h]
  obtain ⟨hin, hout⟩ := looked_R2 (lf := lf) w3 c1 c3 k3b0 (rdS_ext x3 hs)
  have hwl : withinL [f.params, 0, 9, f.nodes.length, 1, 200] = withinL [f.params, 0, 9, xs.length, 1, 200] := by rw [hlen]
  unfold lookedL
  rw [hwl]
  cases hc : withinL [f.params, 0, 9, xs.length, 1, 200] with
  | false =>
    obtain ⟨v2, r2⟩ := hout hc
    refine ⟨fun i hi => ?_, fun ps hp => by simp at hp⟩
    simp at hi
    subst hi
    have hst := hstart _ (ev_stop (c := cAt Try.f30 [1, 1]) (a := cAt Try.f30 [1, 1, 0]) (b := cAt Try.f30 [1, 1, 1]) rfl r2 (by simp))
    exact ⟨_, hst, x3.to_push w3 _⟩
  | true =>
    have hbd : 1 ≤ xs.length ∧ xs.length ≤ 200 := by
      have := hc
      simp only [withinL] at this
      split at this
      · cases this
      · split at this
        · cases this
        · omega
    have hmin : min xs.length 200 = xs.length := by omega
    rw [hmin] at k3b1 k3b2
    obtain ⟨v2, r2, d1, d3⟩ := hin hc
    have w4 := w3.push (.cells true 1 [.int .i64 f.params, .int .i64 0, .int .i64 9, .int .i64 xs.length, .int .i64 1, .int .i64 200])
    have x4 := x3.to_push w3 (.cells true 1 [.int .i64 f.params, .int .i64 0, .int .i64 9, .int .i64 xs.length, .int .i64 1, .int .i64 200])
    have q0 : (H3.push (.cells true 1 [.int .i64 f.params, .int .i64 0, .int .i64 9, .int .i64 xs.length, .int .i64 1, .int .i64 200])).get H.next = _ := (get_push_ne (Nat.ne_of_lt (w3.lt k3b0))).trans k3b0
    have q1 : (H3.push (.cells true 1 [.int .i64 f.params, .int .i64 0, .int .i64 9, .int .i64 xs.length, .int .i64 1, .int .i64 200])).get H1.next = _ := (get_push_ne (Nat.ne_of_lt (w3.lt k3b1))).trans k3b1
    have q2 : (H3.push (.cells true 1 [.int .i64 f.params, .int .i64 0, .int .i64 9, .int .i64 xs.length, .int .i64 1, .int .i64 200])).get (H1.next + 1) = _ := (get_push_ne (Nat.ne_of_lt (w3.lt k3b2))).trans k3b2
    generalize H3.push (.cells true 1 [.int .i64 f.params, .int .i64 0, .int .i64 9, .int .i64 xs.length, .int .i64 1, .int .i64 200]) = H4 at *
    obtain ⟨v3, r3, f1, f3⟩ := looked_R3 (call := callOf c06) (lf := lf) (env := v2) d1 d3 q0 q2 q1 hbd.1 (by simp)
    have w5 := w4.set (w4.lt q1) (.cells true 3 (flatP ((List.replicate xs.length ⟨0, 0, false⟩).set 0 ⟨0, f.params, true⟩)))
    have x5 := x4.to_set hb1 (.cells true 3 (flatP ((List.replicate xs.length ⟨0, 0, false⟩).set 0 ⟨0, f.params, true⟩)))
    have p1 := get_set_self H4 H1.next (.cells true 3 (flatP ((List.replicate xs.length ⟨0, 0, false⟩).set 0 ⟨0, f.params, true⟩)))
    have p2 : (H4.set H1.next (.cells true 3 (flatP ((List.replicate xs.length ⟨0, 0, false⟩).set 0 ⟨0, f.params, true⟩)))).get (H1.next + 1) = _ := (get_set_ne (by omega)).trans q2
    generalize H4.set H1.next (.cells true 3 (flatP ((List.replicate xs.length ⟨0, 0, false⟩).set 0 ⟨0, f.params, true⟩))) = H5 at *
    obtain ⟨v4, r4, g1, g3, g4⟩ := looked_R4 (lf := lf) (env := v3) (H := H5)
    have l1 := Nat.ne_of_lt (w5.lt p1)
    have l2 := Nat.ne_of_lt (w5.lt p2)
    have hO : OHeap H ((H5.push (.cells true 75 z99)).set H5.next (.cells true 75 shapesL)) H1.next (H1.next + 1) H5.next xs.length (.int .i64 f.params) s ((List.replicate xs.length ⟨0, 0, false⟩).set 0 ⟨0, f.params, true⟩) :=
      ⟨(w5.push _).set (by simp) _, (x5.to_push w5 _).to_set (ext_none x5 w5) _, hb1, by rw [get_set_ne l1, get_push_ne l1]; exact p1, by rw [get_set_ne l2, get_push_ne l2]; exact p2, get_set_self _ _ _, by simp⟩
    have n4 : H5.next ≠ H1.next := fun e => l1 e.symm
    generalize (H5.push (.cells true 75 z99)).set H5.next (.cells true 75 shapesL) = H6 at *
    obtain ⟨v5, r5, j1, j3, j4, j40, j41, j42⟩ := looked_R5 (call := callOf c06) (lf := lf) (env := v4) (H := H6) (g3.trans f3) hO.h2 (rdS_ext hO.ext hs)
    have hloop := nodes_loop (lf := lf) (nodes := f.nodes) (by omega) n4 hs rfl hbd.2 hx hll hlen.symm f.nodes 0 lf _ v5 H6 (by simp) (by simp [hlen]) hlf hO (j3.trans (g3.trans f3)) (j4.trans g4) j40 j41 j42
    have hblk : evCode Try.prog (callOf c06) lf 158 none (cAt Try.f30 [1, 1, 1, 1, 1, 0, 1]) v5 [] H6 = match evLoop Try.prog (callOf c06) lf 158 none (cAt Try.f30 pL) lf v5 [] H6 with
        | some (.exit id', env', ds', H') => if id' = 0 then some (.normal, env', ds', H') else some (.exit id', env', ds', H')
        | r => r := by
      rw [show cAt Try.f30 [1, 1, 1, 1, 1, 0, 1] = .block 0 (.loop (cAt Try.f30 pL)) from rfl, evCode_block, evCode_loop]
      rfl
    have chain : ∀ out, evCode Try.prog (callOf c06) lf 158 none (cAt Try.f30 [1, 1, 1, 1, 1]) v4 [] H6 = out → evFn Try.prog (callOf c06) lf 30 [.agg #[.int .i64 f.params, s]] H = fnEnd Try.prog (callOf c06) lf Try.f30 out := by
      intro out h
      refine hstart out ?_
      rw [ev_then (c := cAt Try.f30 [1, 1]) (b := cAt Try.f30 [1, 1, 1]) rfl r2, ev_then (c := cAt Try.f30 [1, 1, 1]) (b := cAt Try.f30 [1, 1, 1, 1]) rfl r3, ev_then (c := cAt Try.f30 [1, 1, 1, 1]) (b := cAt Try.f30 [1, 1, 1, 1, 1]) rfl r4, h]
    have hgo : (if true = true then lookFrom f.nodes.length 0 f.nodes ((List.replicate f.nodes.length ⟨0, 0, false⟩).set 0 ⟨0, f.params, true⟩) else Except.error 0) = lookFrom xs.length 0 f.nodes ((List.replicate xs.length ⟨0, 0, false⟩).set 0 ⟨0, f.params, true⟩) := by rw [if_pos rfl, hlen]
    rw [hgo]
    constructor
    · intro i hi
      obtain ⟨v6, H7, r6, hx7⟩ := hloop.2 i hi
      have hb6 : evCode Try.prog (callOf c06) lf 158 none (cAt Try.f30 [1, 1, 1, 1, 1, 0]) v4 [] H6 = some (.panic (.iface 89 (.int .i64 i)), v6, [], H7) := by
        rw [ev_then (c := cAt Try.f30 [1, 1, 1, 1, 1, 0]) (b := cAt Try.f30 [1, 1, 1, 1, 1, 0, 1]) rfl r5, hblk, r6]
      have hst := chain _ (ev_stop (c := cAt Try.f30 [1, 1, 1, 1, 1]) (a := cAt Try.f30 [1, 1, 1, 1, 1, 0]) (b := cAt Try.f30 [1, 1, 1, 1, 1, 1]) rfl hb6 (by simp))
      exact ⟨_, hst, hx7⟩
    · intro ps hps
      obtain ⟨v6, H7, r6, k3, hO7⟩ := hloop.1 ps hps
      have hb6 : evCode Try.prog (callOf c06) lf 158 none (cAt Try.f30 [1, 1, 1, 1, 1, 0]) v4 [] H6 = some (.normal, v6, [], H7) := by
        rw [ev_then (c := cAt Try.f30 [1, 1, 1, 1, 1, 0]) (b := cAt Try.f30 [1, 1, 1, 1, 1, 0, 1]) rfl r5, hblk, r6]; rfl
      obtain ⟨v7, r7, m2⟩ := looked_R20 (call := callOf c06) (lf := lf) (env := v6) (H := H7)
      have hend : evCode Try.prog (callOf c06) lf 158 none (cAt Try.f30 [1, 1, 1, 1, 1, 1]) v6 [] H7 = some (.ret, v7, [], H7) := by
        rw [ev_then (c := cAt Try.f30 [1, 1, 1, 1, 1, 1]) (b := .ret) rfl r7, evCode_ret]
      have hst := chain (some (.ret, v7, [], H7)) (by rw [ev_then (c := cAt Try.f30 [1, 1, 1, 1, 1]) (b := cAt Try.f30 [1, 1, 1, 1, 1, 1]) rfl hb6, hend])
      have hv : v7.val 2 = .pointer (some ⟨H1.next + 1, 0, none⟩) := m2.trans (k3.trans (j3.trans (g3.trans f3)))
      refine ⟨.ret (.pointer (some ⟨H1.next + 1, 0, none⟩)), H7, hst.trans ?_, hO7.ext, ⟨H1.next, H1.next + 1, .int .i64 f.params, s, rfl, ?_, hO7.h1⟩⟩
      · simp [fnEnd, hv]
      · rw [hO7.hm]; exact hO7.h2
end Go.Proofs.Ytpopkajkekceiaa

namespace Go.Proofs.Ytpopkajkekceiaa
open Go Go.Abs
set_option maxRecDepth 100000
set_option linter.unusedSimpArgs false
set_option linter.unusedVariables false

theorem store1 {H : Heap} {b es : Nat} {x v : Value} {t : TypeId} {i : TypeInfo} (h : H.get b = some (.cells true es [x])) (hi : Try.prog.info? t = some i) (hs : i.size = 1) (hv : v.cells = #[v]) (ho : oneC v = true) :
    storeA Try.prog t H b 0 v = some (H.set b (.cells true es [v])) := by
  simp only [storeA, h, hi, hs, hv]
  rw [if_pos ⟨rfl, by simp, by simp [ho]⟩]
  simp [putL]

/-- caught, behind a panic of looked's. -/
theorem caught_pan {call : CallF} {lf : Nat} {H : Heap} {a b : Nat} {x y : Value} {i : Int} (ha : H.get a = some (.cells true 1 [x])) (hb : H.get b = some (.cells true 1 [y])) (hab : b ≠ a) :
    evDef Try.prog call lf 29 [.pointer (some ⟨a, 0, none⟩), .pointer (some ⟨b, 0, none⟩)] (.pan (.iface 89 (.int .i64 i))) H = some (.recd (.iface 89 (.int .i64 i)), (H.set a (.cells true 1 [.int .i64 i])).set b (.cells true 1 [.int .i64 60])) := by
  have s1 := store1 (v := .int .i64 i) ha info3 size3 rfl rfl
  have s2 := store1 (v := .int .i64 60) ((get_set_ne (o := .cells true 1 [.int .i64 i]) hab).trans hb) info27 size27 rfl rfl
  generalize hr : evDef Try.prog call lf 29 [.pointer (some ⟨a, 0, none⟩), .pointer (some ⟨b, 0, none⟩)] (.pan (.iface 89 (.int .i64 i))) H = out
  simp [Try.f29, s1, s2, eqA, typeAssertA] at hr
  exact hr.symm

/-- caught, behind a return. -/
theorem caught_ret {call : CallF} {lf : Nat} {H : Heap} {a b : Nat} :
    evDef Try.prog call lf 29 [.pointer (some ⟨a, 0, none⟩), .pointer (some ⟨b, 0, none⟩)] .ret H = some (.ret, H) := by
  generalize hr : evDef Try.prog call lf 29 [.pointer (some ⟨a, 0, none⟩), .pointer (some ⟨b, 0, none⟩)] .ret H = out
  simp [Try.f29] at hr
  exact hr.symm

/-- Where a function is wrong, plainly. -/
def whereL (f : FunD) : Int × Int := match lookedL f with
  | .ok _ => (0, 0)
  | .error i => (i, 60)

def fits (f : FunD) : Prop := ∀ x ∈ f.nodes, x.l.length < 1099511627776

theorem mem_le_sum : ∀ (l : List NodeD) (x : NodeD), x ∈ l → x.l.length ≤ (l.map fun x => x.l.length).sum
  | [], x, h => by simp at h
  | y :: l, x, h => by
    rcases List.mem_cons.1 h with rfl | h
    · simp
    · have := mem_le_sum l x h; simp; omega

/-- How long a loop may go. -/
def roomOf (f : FunD) : Nat := f.nodes.length + (f.nodes.map fun x => x.l.length).sum + 1
theorem roomOf_node (f : FunD) : f.nodes.length < roomOf f ∧ ∀ x ∈ f.nodes, x.l.length < roomOf f := by
  refine ⟨by unfold roomOf; omega, fun x hx => ?_⟩
  have : x.l.length ≤ (f.nodes.map fun x => x.l.length).sum := mem_le_sum f.nodes x hx
  unfold roomOf; omega
end Go.Proofs.Ytpopkajkekceiaa

namespace Go.Proofs.Ytpopkajkekceiaa
open Go Go.Abs
set_option maxRecDepth 100000
set_option linter.unusedSimpArgs false
set_option linter.unusedVariables false

theorem c06_30 {args : List Value} {H : Heap} : callOf c06 (.fn 30 args) H = none := by
  unfold c06
  rw [callOf_miss (by decide), callOf_miss (by decide), callOf_miss (by decide), callOf_miss (by decide), callOf_miss (by decide), callOf_miss (by decide), callOf_miss (by decide)]
  rfl
theorem with_30 {lf : Nat} {args : List Value} {H : Heap} : evWith Try.prog lf c06 1 (.fn 30 args) H = evFn Try.prog (callOf c06) lf 30 args H := by
  show (match callOf c06 (.fn 30 args) H with | some r => some r | none => ev1 Try.prog (evWith Try.prog lf c06 0) lf (.fn 30 args) H) = _
  rw [c06_30]; rfl

theorem where_R012 {call : CallF} {lf : Nat} {H : Heap} {p : Int} {s : Value} (hs : oneC s = true) :
    ∃ env', evCode Try.prog call lf 6 none (cAt Try.f11 [0]) (envOf 0 [.agg #[.int .i64 p, s]] .nil) [] H = some (.normal, env', [], ((H.push (.cells true 2 [.int .i64 p, s])).push (.cells true 1 [.int .i64 0])).push (.cells true 1 [.int .i64 0])) ∧
      env'.val 1 = .pointer (some ⟨H.next, 0, none⟩) ∧ env'.val 2 = .pointer (some ⟨H.next + 1, 0, none⟩) ∧ env'.val 3 = .pointer (some ⟨H.next + 2, 0, none⟩) := by
  generalize hr : evCode Try.prog call lf 6 none (cAt Try.f11 [0]) (envOf 0 [.agg #[.int .i64 p, s]] .nil) [] H = out
  simp [Try.f11, hs] at hr
  subst hr
  exact ⟨_, rfl, by simp⟩
theorem where_R1 {call : CallF} {lf : Nat} {env : Env} {H : Heap} {a b : Nat} (h2 : env.val 2 = .pointer (some ⟨a, 0, none⟩)) (h3 : env.val 3 = .pointer (some ⟨b, 0, none⟩)) :
    evCode Try.prog call lf 6 none (cAt Try.f11 [1, 0]) env [] H = some (.normal, env, [.fn 29 [.pointer (some ⟨a, 0, none⟩), .pointer (some ⟨b, 0, none⟩)]], H) := by
  simp [Try.f11, h2, h3]

theorem where_R2 {call : CallF} {lf : Nat} {env : Env} {ds : List ADef} {H H' : Heap} {b0 : Nat} {p : Int} {s : Value} {r : CRes} (h1 : env.val 1 = .pointer (some ⟨b0, 0, none⟩)) (h0 : H.get b0 = some (.cells true 2 [.int .i64 p, s])) (hc : call (.fn 30 [.agg #[.int .i64 p, s]]) H = some (r, H')) :
    (∀ v, r = .ret v → ∃ env', evCode Try.prog call lf 6 none (cAt Try.f11 [1, 1, 0]) env ds H = some (.normal, env', ds, H') ∧ env'.val 2 = env.val 2 ∧ env'.val 3 = env.val 3) ∧
    (∀ v, r = .pan v → ∃ env', evCode Try.prog call lf 6 none (cAt Try.f11 [1, 1, 0]) env ds H = some (.panic v, env', ds, H') ∧ env'.val 2 = env.val 2 ∧ env'.val 3 = env.val 3) := by
  have ld : loadA Try.prog 24 H b0 0 = some (.agg #[.int .i64 p, s]) := by
    simp [loadA, h0]
  constructor
  · rintro v rfl
    generalize hr : evCode Try.prog call lf 6 none (cAt Try.f11 [1, 1, 0]) env ds H = out
    simp [Try.f11, h1, ld, callA, hc] at hr
    subst hr
    exact ⟨_, rfl, by simp⟩
  · rintro v rfl
    generalize hr : evCode Try.prog call lf 6 none (cAt Try.f11 [1, 1, 0]) env ds H = out
    simp [Try.f11, h1, ld, callA, hc] at hr
    subst hr
    exact ⟨_, rfl, by simp⟩
end Go.Proofs.Ytpopkajkekceiaa

namespace Go.Proofs.Ytpopkajkekceiaa
open Go Go.Abs
set_option maxRecDepth 100000
set_option linter.unusedSimpArgs false
set_option linter.unusedVariables false

theorem where_R3 {call : CallF} {lf : Nat} {env : Env} {ds : List ADef} {H : Heap} {a b : Nat} {x y : Value} (h2 : env.val 2 = .pointer (some ⟨a, 0, none⟩)) (h3 : env.val 3 = .pointer (some ⟨b, 0, none⟩)) (ha : H.get a = some (.cells true 1 [x])) (hb : H.get b = some (.cells true 1 [y])) (hab : b ≠ a) :
    ∃ env', evCode Try.prog call lf 6 none (cAt Try.f11 [1, 1, 1, 0]) env ds H = some (.normal, env', ds, (H.set a (.cells true 1 [.int .i64 0])).set b (.cells true 1 [.int .i64 0])) ∧ env'.val 2 = env.val 2 ∧ env'.val 3 = env.val 3 := by
  have s1 := store1 (v := .int .i64 0) ha info3 size3 rfl rfl
  have s2 := store1 (v := .int .i64 0) ((get_set_ne (o := .cells true 1 [.int .i64 0]) hab).trans hb) info27 size27 rfl rfl
  generalize hr : evCode Try.prog call lf 6 none (cAt Try.f11 [1, 1, 1, 0]) env ds H = out
  simp [Try.f11, h2, h3, s1, s2] at hr
  subst hr
  exact ⟨_, rfl, by simp [h2, h3]⟩

/-- Where's results. -/
theorem where_results {env : Env} {H : Heap} {a b : Nat} {x y : Int} (h2 : env.val 2 = .pointer (some ⟨a, 0, none⟩)) (h3 : env.val 3 = .pointer (some ⟨b, 0, none⟩)) (ha : H.get a = some (.cells true 1 [.int .i64 x])) (hb : H.get b = some (.cells true 1 [.int .i64 y])) :
    resultsA Try.prog Try.f11 env H = some (.tuple #[.int .i64 x, .int .i64 y]) := by
  have l1 : loadA Try.prog 3 H a 0 = some (.int .i64 x) := by simp [loadA, ha]
  have l2 : loadA Try.prog 27 H b 0 = some (.int .i64 y) := by simp [loadA, hb]
  simp [Try.f11, h2, h3, l1, l2]
end Go.Proofs.Ytpopkajkekceiaa

namespace Go.Proofs.Ytpopkajkekceiaa
open Go Go.Abs
set_option maxRecDepth 100000
set_option linter.unusedSimpArgs false
set_option linter.unusedVariables false

theorem where_run {H : Heap} {v : Value} {f : FunD} (hw : H.Wf) (hf : rdFun H v = some f) (hfit : fits f) :
    ∃ H', evFn Try.prog (evWith Try.prog (roomOf f) c06 1) (roomOf f) 11 [v] H = some (.ret (.tuple #[.int .i64 (whereL f).1, .int .i64 (whereL f).2]), H') ∧ Ext H H' := by
  obtain ⟨s, xs, rfl, hsm, hs, hlen, hx⟩ := rdFun_inv hf
  obtain ⟨e1, e2, e3, e4⟩ := rdS_one hs
  obtain ⟨rm1, rm2⟩ := roomOf_node f
  obtain ⟨v0, r0, a1, a2, a3⟩ := where_R012 (call := evWith Try.prog (roomOf f) c06 1) (lf := roomOf f) (H := H) (p := f.params) e2
  have w1 := hw.push (.cells true 2 [.int .i64 f.params, s])
  have w2 := w1.push (.cells true 1 [.int .i64 0])
  have w3 := w2.push (.cells true 1 [.int .i64 0])
  have x3 := ((Ext.push hw (.cells true 2 [.int .i64 f.params, s])).to_push w1 (.cells true 1 [.int .i64 0])).to_push w2 (.cells true 1 [.int .i64 0])
  have g0 : (((H.push (.cells true 2 [.int .i64 f.params, s])).push (.cells true 1 [.int .i64 0])).push (.cells true 1 [.int .i64 0])).get H.next = some (.cells true 2 [.int .i64 f.params, s]) := by
    rw [get_push_ne (by simp; omega), get_push_ne (by simp), get_push_self]
  have g1 : (((H.push (.cells true 2 [.int .i64 f.params, s])).push (.cells true 1 [.int .i64 0])).push (.cells true 1 [.int .i64 0])).get (H.next + 1) = some (.cells true 1 [.int .i64 0]) := by
    rw [get_push_ne (by simp)]; exact get_push_self (H.push _) _
  have g2 : (((H.push (.cells true 2 [.int .i64 f.params, s])).push (.cells true 1 [.int .i64 0])).push (.cells true 1 [.int .i64 0])).get (H.next + 2) = some (.cells true 1 [.int .i64 0]) := get_push_self ((H.push _).push _) _
  generalize ((H.push (.cells true 2 [.int .i64 f.params, s])).push (.cells true 1 [.int .i64 0])).push (.cells true 1 [.int .i64 0]) = H3 at *
  have rr1 := where_R1 (call := evWith Try.prog (roomOf f) c06 1) (lf := roomOf f) (H := H3) a2 a3
  obtain ⟨lerr, lok⟩ := looked_run (lf := roomOf f) w3 (rdFun_ext x3 hf) rm1 (fun x hx => ⟨hfit x hx, rm2 x hx⟩)
  have hn1 : H.get (H.next + 1) = none := hw _ (by omega)
  have hn2 : H.get (H.next + 2) = none := hw _ (by omega)
  have hstart : ∀ out, evCode Try.prog (evWith Try.prog (roomOf f) c06 1) (roomOf f) 6 none (cAt Try.f11 [1, 1]) v0 [.fn 29 [.pointer (some ⟨H.next + 1, 0, none⟩), .pointer (some ⟨H.next + 2, 0, none⟩)]] H3 = out →
      evFn Try.prog (evWith Try.prog (roomOf f) c06 1) (roomOf f) 11 [.agg #[.int .i64 f.params, s]] H = fnEnd Try.prog (evWith Try.prog (roomOf f) c06 1) (roomOf f) Try.f11 out := by
    intro out h
    rw [evFn_at Try.func11 body11 (by simp), Try.ntmps11, ev_then (c := cAt Try.f11 []) (b := cAt Try.f11 [1]) rfl r0, ev_then (c := cAt Try.f11 [1]) (b := cAt Try.f11 [1, 1]) rfl rr1, h]
  unfold whereL
  cases hL : lookedL f with
  | error i =>
    obtain ⟨H4, c4, x4⟩ := lerr i hL
    obtain ⟨v2, r2, b2, b3⟩ := (where_R2 (lf := roomOf f) (ds := [.fn 29 [.pointer (some ⟨H.next + 1, 0, none⟩), .pointer (some ⟨H.next + 2, 0, none⟩)]]) a1 g0 (with_30.trans c4)).2 _ rfl
    have hst := hstart _ (ev_stop (c := cAt Try.f11 [1, 1]) (a := cAt Try.f11 [1, 1, 0]) (b := cAt Try.f11 [1, 1, 1]) rfl r2 (by simp))
    have hcp := caught_pan (call := evWith Try.prog (roomOf f) c06 1) (lf := roomOf f) (i := (i : Int)) (x4 _ _ g1) (x4 _ _ g2) (by omega)
    refine ⟨(H4.set (H.next + 1) (.cells true 1 [.int .i64 i])).set (H.next + 2) (.cells true 1 [.int .i64 60]), hst.trans ?_, ?_⟩
    · simp only [fnEnd, evLeave, hcp, PM.settle]
      rw [where_results (b2.trans a2) (b3.trans a3) (by rw [get_set_ne (by omega), get_set_self]) (get_set_self _ _ _)]
      rfl
    · exact ((x3.trans x4).to_set hn1 _).to_set hn2 _
  | ok ps =>
    obtain ⟨r, H4, c4, x4, lk⟩ := lok ps hL
    obtain ⟨q1, q2, q3, q4, rfl, _⟩ := lk.ret
    obtain ⟨v2, r2, b2, b3⟩ := (where_R2 (lf := roomOf f) (ds := [.fn 29 [.pointer (some ⟨H.next + 1, 0, none⟩), .pointer (some ⟨H.next + 2, 0, none⟩)]]) a1 g0 (with_30.trans c4)).1 _ rfl
    obtain ⟨v3, r3, d2, d3⟩ := where_R3 (call := evWith Try.prog (roomOf f) c06 1) (lf := roomOf f) (ds := [.fn 29 [.pointer (some ⟨H.next + 1, 0, none⟩), .pointer (some ⟨H.next + 2, 0, none⟩)]]) (b2.trans a2) (b3.trans a3) (x4 _ _ g1) (x4 _ _ g2) (by omega)
    have hst := hstart (some (.ret, v3, _, _)) (by rw [ev_then (c := cAt Try.f11 [1, 1]) (b := cAt Try.f11 [1, 1, 1]) rfl r2, ev_then (c := cAt Try.f11 [1, 1, 1]) (b := .ret) rfl r3, evCode_ret])
    refine ⟨(H4.set (H.next + 1) (.cells true 1 [.int .i64 0])).set (H.next + 2) (.cells true 1 [.int .i64 0]), hst.trans ?_, ?_⟩
    · simp only [fnEnd, evLeave, caught_ret, PM.settle]
      rw [where_results (d2.trans (b2.trans a2)) (d3.trans (b3.trans a3)) (by rw [get_set_ne (by omega), get_set_self]) (get_set_self _ _ _)]
      rfl
    · exact ((x3.trans x4).to_set hn1 _).to_set hn2 _
end Go.Proofs.Ytpopkajkekceiaa

namespace Go.Proofs.Ytpopkajkekceiaa
open Go Go.Abs
set_option maxRecDepth 100000
set_option linter.unusedSimpArgs false
set_option linter.unusedVariables false

/-- A function that may be read, whose nodes are not of unheard-of length. -/
noncomputable def rdFit (H : Heap) (v : Value) : Option FunD := match rdFun H v with
  | some f => if f.nodes.all (fun x => Nat.blt x.l.length 1099511627776) = true then some f else none
  | none => none
theorem rdFit_inv {H : Heap} {v : Value} {f : FunD} (h : rdFit H v = some f) : rdFun H v = some f ∧ fits f := by
  unfold rdFit at h
  split at h
  · rename_i g hg
    split at h
    · rename_i hc
      cases h
      refine ⟨hg, fun x hx => ?_⟩
      rw [List.all_eq_true] at hc
      simpa using hc x hx
    · cases h
  · cases h
theorem rdFit_of {H : Heap} {v : Value} {f : FunD} (h : rdFun H v = some f) (hf : fits f) : rdFit H v = some f := by
  unfold rdFit
  rw [h]
  simp only
  rw [if_pos]
  rw [List.all_eq_true]
  intro x hx
  simpa using hf x hx
theorem rdFit_ext {H H' : Heap} (hx : Ext H H') {v : Value} {f : FunD} (h : rdFit H v = some f) : rdFit H' v = some f :=
  rdFit_of (rdFun_ext hx (rdFit_inv h).1) (rdFit_inv h).2

/-- Where. -/
noncomputable def whereC : Contract Try.prog := Contract.plain 11
  (fun args H => match args with
    | [v] => (rdFit H v).map fun f => .ret (.tuple #[.int .i64 (whereL f).1, .int .i64 (whereL f).2])
    | _ => none) (by
    intro args H res hw hr
    split at hr
    · rename_i v
      obtain ⟨f, hf, rfl⟩ := Option.map_eq_some_iff.1 hr
      obtain ⟨h1, h2⟩ := rdFit_inv hf
      obtain ⟨H', h3, h4⟩ := where_run hw h1 h2
      exact ⟨rfl, _, H', evWith_ok _ _ _, _, h3, h4⟩
    · cases hr)
theorem where_hit {cs : List (Contract Try.prog)} {H : Heap} {v : Value} {f : FunD} (h : rdFit H v = some f) : callOf (whereC :: cs) (.fn 11 [v]) H = some (.ret (.tuple #[.int .i64 (whereL f).1, .int .i64 (whereL f).2]), H) :=
  callOf_hit rfl (by simp [whereC, Contract.plain, h])

theorem rdFun_cells {H : Heap} {v : Value} {f : FunD} (h : rdFun H v = some f) : ∃ s, v = .agg #[.int .i64 f.params, s] ∧ oneC s = true ∧ eqV s s = true ∧ eq0 s s = true := by
  obtain ⟨s, xs, rfl, hsm, hs, _⟩ := rdFun_inv h
  obtain ⟨_, h2, h3, h4⟩ := rdS_one hs
  exact ⟨s, rfl, h2, h3, h4⟩

/-- Check. -/
noncomputable def checkC : Contract Try.prog := Contract.plain 14
  (fun args H => match args with
    | [v] => (rdFit H v).map fun f => .ret (.int .i64 (whereL f).2)
    | _ => none) (by
    intro args H res hw hr
    split at hr
    · rename_i v
      obtain ⟨f, hf, rfl⟩ := Option.map_eq_some_iff.1 hr
      obtain ⟨s, rfl, hs, _, _⟩ := rdFun_cells (rdFit_inv hf).1
      have hx := Ext.push hw (.cells true 2 [.int .i64 f.params, s])
      have hc := where_hit (cs := []) (rdFit_ext hx hf)
      have ld : loadA Try.prog 24 (H.push (.cells true 2 [.int .i64 f.params, s])) H.next 0 = some (.agg #[.int .i64 f.params, s]) := by
        simp [loadA, get_push_self]
      refine ⟨rfl, callOf [whereC], H.push (.cells true 2 [.int .i64 f.params, s]), callOf_ok _, 0, ?_, hx⟩
      simp [Try.f14, hs, ld, callA, hc]
    · cases hr)
theorem check_hit {cs : List (Contract Try.prog)} {H : Heap} {v : Value} {f : FunD} (h : rdFit H v = some f) : callOf (checkC :: cs) (.fn 14 [v]) H = some (.ret (.int .i64 (whereL f).2), H) :=
  callOf_hit rfl (by simp [checkC, Contract.plain, h])

/-- num. -/
noncomputable def numC : Contract Try.prog := Contract.plain 13
  (fun args _ => match args with
    | [.int .i64 n] => some (.ret (.int .i64 n))
    | _ => none) (by
    intro args H res hw hr
    split at hr
    · cases hr
      exact ⟨rfl, _, H, noCall_ok, 0, by simp [Try.f13], Ext.refl H⟩
    · cases hr)
end Go.Proofs.Ytpopkajkekceiaa
