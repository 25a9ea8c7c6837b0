/-
  A part of a proof: texts laid behind one another (A15, A16, A17, B1, B2, B3, B4, C1).
-/
import Derived.Test.YtgopamojnoefiaaGA5
import Derived.Carry
import Derived.ChangeSame
import Derived.WideKeyArgs
import Derived.JoinedCond
import Derived.OpenShut
import Derived.ProofKit
/-
  What is done and left behind need not be known: a call that leaves the abstract heap as it was; a closed call in any heap; contracts.
-/
namespace Go.Abs
noncomputable section
open Go Go.RowKit
set_option linter.unusedVariables false
set_option linter.unusedSimpArgs false

/-! ### A value of a heap, told back -/
theorem VRel.back {r r' : Ren} (hr : Ren.le r r') {v x y : Value} (h : VRel r v x) (h' : VRel r' v y) : VRel r v y := by
  induction h generalizing y with
  | bool b => cases h'; exact .bool b
  | int k n => cases h'; exact .int k n
  | string s => cases h'; exact .string s
  | ptrNil => cases h'; exact .ptrNil
  | ptr h => cases h' with | ptr h2 => rw [hr _ _ h] at h2; cases h2; exact .ptr h
  | sliceNil => cases h'; exact .sliceNil
  | slice h ho hc => cases h' with | slice h2 ho2 hc2 => rw [hr _ _ h] at h2; cases h2; exact .slice h ho2 hc2
  | sliceZ a => cases h'; exact .sliceZ _
  | mapNil => cases h'; exact .mapNil
  | map h => cases h' with | map h2 => rw [hr _ _ h] at h2; cases h2; exact .map h
  | func f h1 h2 h3 h4 i1 i2 =>
    rename_i xs ys cs ds
    cases h' with
    | func _ g1 g2 g3 g4 =>
      refine .func f g1 (fun i a b ha hb => ?_) g3 (fun i a b ha hb => ?_)
      · have hi : i < ys.size := by rw [← h1]; exact (Array.getElem?_eq_some_iff.1 ha).1
        exact i1 i a _ ha (Array.getElem?_eq_getElem hi) (g2 i a b ha hb)
      · have hi : i < ds.size := by rw [← h3]; exact (Array.getElem?_eq_some_iff.1 ha).1
        exact i2 i a _ ha (Array.getElem?_eq_getElem hi) (g4 i a b ha hb)
  | yield h => cases h' with
    | yield h2 => rw [hr _ _ h] at h2; cases h2; exact .yield h
  | nilFunc => cases h'; exact .nilFunc
  | nilIface => cases h'; exact .nilIface
  | iface t _ ih => cases h' with | iface _ h2 => exact .iface t (ih h2)
  | agg h1 h2 ih =>
    rename_i xs ys
    cases h' with
    | agg g1 g2 =>
      refine .agg g1 (fun i a b ha hb => ?_)
      have hi : i < ys.size := by rw [← h1]; exact (Array.getElem?_eq_some_iff.1 ha).1
      exact ih i a _ ha (Array.getElem?_eq_getElem hi) (g2 i a b ha hb)
  | tuple h1 h2 ih =>
    rename_i xs ys
    cases h' with
    | tuple g1 g2 =>
      refine .tuple g1 (fun i a b ha hb => ?_)
      have hi : i < ys.size := by rw [← h1]; exact (Array.getElem?_eq_some_iff.1 ha).1
      exact ih i a _ ha (Array.getElem?_eq_getElem hi) (g2 i a b ha hb)

theorem ORel.back {base : Nat} {r r' : Ren} (hr : Ren.le r r') {L : Loc} {w w' : World} {ob : AObj} (h : ORel base r L w ob) (h' : ORel base r' L w' ob) : ORel base r L w' ob := by
  cases ob with
  | cells own es cs =>
    obtain ⟨C, e, fz, h1, h2, h3, h4, h5⟩ := h
    obtain ⟨C', e', fz', g1, g2, g3, g4, g5⟩ := h'
    exact ⟨C', e', fz', g1, g2, g3, g4, fun i v hv => let ⟨a, ha, hva⟩ := h5 i v hv; let ⟨b, hb, hvb⟩ := g5 i v hv; ⟨b, hb, hva.back hr hvb⟩⟩
  | vol n => exact h'
  | amap k es =>
    obtain ⟨M, cl, h1, h2, h3, h4⟩ := h
    obtain ⟨M', cl', g1, g2, g3, g4⟩ := h'
    refine ⟨M', cl', g1, g2, g3, fun i n x e a b => ⟨(g4 i n x e a b).1, ?_⟩⟩
    have hi : i < M.toList.length := by rw [← h3]; exact (List.getElem?_eq_some_iff.1 a).1
    exact ((h4 i n x _ a (List.getElem?_eq_getElem hi)).2).back hr (g4 i n x e a b).2
  | loop a =>
    obtain ⟨c, h1, h2, h3, h4, h6, h7, h8, h9, h11, h10⟩ := h
    obtain ⟨c', g1, g2, g3, g4, g6, g7, g8, g9, g11, g10⟩ := h'
    exact ⟨c', g1, g2, g3, g4, g6, g7, g8, g9, g11, fun i => (h10 i).back hr (g10 i)⟩
  | defs => exact h'
  | dead => trivial

/-- Whatever one heap knows, the other knows. -/
def Ext (H H' : Heap) : Prop := ∀ b ob, H.get b = some ob → H'.get b = some ob
theorem Ext.refl (H : Heap) : Ext H H := fun _ _ h => h
theorem Ext.trans {a b c : Heap} (h : Ext a b) (k : Ext b c) : Ext a c := fun x o hx => k x o (h x o hx)

def Heap.Wf (H : Heap) : Prop := ∀ b, H.next ≤ b → H.get b = none
theorem Heap.Wf.lt {H : Heap} (h : H.Wf) {b : Nat} {ob : AObj} (hb : H.get b = some ob) : b < H.next := by
  rcases Nat.lt_or_ge b H.next with hl | hl
  · exact hl
  · rw [h b hl] at hb; cases hb
theorem Heap.Wf.push {H : Heap} (h : H.Wf) (ob : AObj) : (H.push ob).Wf := fun b hb => by
  rw [Heap.get_push, if_neg (by simp at hb; omega)]; exact h b (by simp at hb; omega)
theorem Ext.push {H : Heap} (h : H.Wf) (ob : AObj) : Ext H (H.push ob) := fun b o hb => by
  rw [Heap.get_push, if_neg (by have := h.lt hb; omega)]; exact hb

theorem Rel.drop {base : Nat} {w0 w w' : World} {r r' : Ren} {H H' : Heap} (h : Rel base w0 r H w) (h' : Rel base w0 r' H' w') (hr : Ren.le r r') (hx : Ext H H') : Rel base w0 r H w' := by
  refine ⟨h'.below, h'.le, ?_, ?_, h.wf, h.rn⟩
  · intro b L hL
    obtain ⟨ob, h1, h2⟩ := h.dom b L hL
    obtain ⟨ob', g1, g2⟩ := h'.dom b L (hr b L hL)
    rw [hx b ob h1] at g1; cases g1
    exact ⟨ob, h1, h2.back hr g2⟩
  · intro b c L M ob oc hb hc gb gc
    exact h'.inj b c L M ob oc (hr b L hb) (hr c M hc) (hx b ob gb) (hx c oc gc)

theorem Rel.hwf {base : Nat} {w0 w : World} {r : Ren} {H : Heap} (h : Rel base w0 r H w) : H.Wf := h.wf

/-- A function that holds nothing. -/
def bare : Value → Bool
  | .func (.func _) xs ys => Nat.beq xs.size 0 && Nat.beq ys.size 0
  | _ => false
/-- A value that bears no address (functions that hold nothing are let in). -/
def pureF : Value → Bool
  | .agg cs => cs.toList.all fun v => pure0 v || bare v
  | .tuple cs => cs.toList.all fun v => pureV v || bare v
  | v => pure0 v || bare v
/-- An answer that bears no address. -/
def pureC : CRes → Bool
  | .ret v => pureF v
  | .pan v => match v with
    | .iface _ x => pureV x
    | _ => false

theorem bare_inv {v x : Value} {r : Ren} (hp : bare v = true) (h : VRel r v x) : x = v := by
  cases h <;> first | (exact absurd hp (by decide)) | (exact absurd hp Bool.false_ne_true) | skip
  rename_i f xs ys cs ds h1 h2 h3 h4
  simp only [bare, Bool.and_eq_true, Nat.beq_eq] at hp
  have e1 : xs = #[] := Array.eq_empty_of_size_eq_zero hp.1
  have e2 : cs = #[] := Array.eq_empty_of_size_eq_zero hp.2
  have e3 : ys = #[] := Array.eq_empty_of_size_eq_zero (by omega)
  have e4 : ds = #[] := Array.eq_empty_of_size_eq_zero (by omega)
  rw [e1, e2, e3, e4]
theorem bare_rel {v : Value} (hp : bare v = true) (r : Ren) : VRel r v v := by
  unfold bare at hp
  split at hp
  · rename_i f xs ys
    simp only [Bool.and_eq_true, Nat.beq_eq] at hp
    have e1 : xs = #[] := Array.eq_empty_of_size_eq_zero hp.1
    have e2 : ys = #[] := Array.eq_empty_of_size_eq_zero hp.2
    subst e1; subst e2
    exact .func _ rfl (fun i x y hx => by simp at hx) rfl (fun i x y hx => by simp at hx)
  · cases hp
theorem pure0_inv {v x : Value} {r : Ren} (hp : pure0 v = true) (h : VRel r v x) : x = v := by
  cases h <;> first | rfl | (exact absurd hp (by simp [pure0]))
theorem pureV_inv {v x : Value} {r : Ren} (hp : pureV v = true) (h : VRel r v x) : x = v := by
  have arr : ∀ (cs ys : Array Value), cs.toList.all pure0 = true → cs.size = ys.size → (∀ (i : Nat) a b, cs[i]? = some a → ys[i]? = some b → VRel r a b) → ys = cs := by
    intro cs ys hc hs hv
    apply Array.ext hs.symm
    intro i h1 h2
    have ha := Array.getElem?_eq_getElem h2
    have hb := Array.getElem?_eq_getElem h1
    rw [List.all_eq_true] at hc
    exact pure0_inv (hc _ (by simp)) (hv i _ _ ha hb)
  cases h with
  | agg h1 h2 => rename_i xs ys; unfold pureV at hp; rw [arr xs ys hp h1 h2]
  | tuple h1 h2 => rename_i xs ys; unfold pureV at hp; rw [arr xs ys hp h1 h2]
  | bool b => rfl
  | int k n => rfl
  | string s => rfl
  | ptrNil => rfl
  | sliceNil => rfl
  | mapNil => rfl
  | nilFunc => rfl
  | nilIface => rfl
  | ptr h => cases hp
  | slice h _ _ => cases hp
  | sliceZ a => cases hp
  | map h => cases hp
  | func f _ _ _ _ => cases hp
  | yield h => cases hp
  | iface t h => cases hp

theorem pure1_inv {v x : Value} {r : Ren} (hp : (pure0 v || bare v) = true) (h : VRel r v x) : x = v := by
  rcases Bool.or_eq_true _ _ ▸ hp with hp | hp
  · exact pure0_inv hp h
  · exact bare_inv hp h
theorem pure1_rel {v : Value} (hp : (pure0 v || bare v) = true) (r : Ren) : VRel r v v := by
  rcases Bool.or_eq_true _ _ ▸ hp with hp | hp
  · exact pure0_rel hp r
  · exact bare_rel hp r
theorem pure2_inv {v x : Value} {r : Ren} (hp : (pureV v || bare v) = true) (h : VRel r v x) : x = v := by
  rcases Bool.or_eq_true _ _ ▸ hp with hp | hp
  · exact pureV_inv hp h
  · exact bare_inv hp h
theorem pure2_rel {v : Value} (hp : (pureV v || bare v) = true) (r : Ren) : VRel r v v := by
  rcases Bool.or_eq_true _ _ ▸ hp with hp | hp
  · exact pureV_rel hp r
  · exact bare_rel hp r
theorem pureF_inv {v x : Value} {r : Ren} (hp : pureF v = true) (h : VRel r v x) : x = v := by
  have arr : ∀ (cs ys : Array Value), (cs.toList.all fun v => pure0 v || bare v) = true → cs.size = ys.size → (∀ (i : Nat) a b, cs[i]? = some a → ys[i]? = some b → VRel r a b) → ys = cs := by
    intro cs ys hc hs hv
    apply Array.ext hs.symm
    intro i h1 h2
    have ha := Array.getElem?_eq_getElem h2
    have hb := Array.getElem?_eq_getElem h1
    rw [List.all_eq_true] at hc
    exact pure1_inv (hc _ (by simp)) (hv i _ _ ha hb)
  have arr2 : ∀ (cs ys : Array Value), (cs.toList.all fun v => pureV v || bare v) = true → cs.size = ys.size → (∀ (i : Nat) a b, cs[i]? = some a → ys[i]? = some b → VRel r a b) → ys = cs := by
    intro cs ys hc hs hv
    apply Array.ext hs.symm
    intro i h1 h2
    have ha := Array.getElem?_eq_getElem h2
    have hb := Array.getElem?_eq_getElem h1
    rw [List.all_eq_true] at hc
    exact pure2_inv (hc _ (by simp)) (hv i _ _ ha hb)
  cases h with
  | agg h1 h2 => rename_i xs ys; unfold pureF at hp; rw [arr xs ys hp h1 h2]
  | tuple h1 h2 => rename_i xs ys; unfold pureF at hp; rw [arr2 xs ys hp h1 h2]
  | bool b => rfl
  | int k n => rfl
  | string s => rfl
  | ptrNil => rfl
  | sliceNil => rfl
  | mapNil => rfl
  | nilFunc => rfl
  | nilIface => rfl
  | ptr h => cases hp
  | slice h _ _ => cases hp
  | sliceZ a => cases hp
  | map h => cases hp
  | func f h1 h2 h3 h4 => exact pure1_inv (r := r) hp (.func f h1 h2 h3 h4)
  | yield h => cases hp
  | iface t h => cases hp
theorem pureF_rel {v : Value} (hp : pureF v = true) (r : Ren) : VRel r v v := by
  have arr : ∀ (cs : Array Value), (cs.toList.all fun v => pure0 v || bare v) = true → ∀ (i : Nat) a b, cs[i]? = some a → cs[i]? = some b → VRel r a b := by
    intro cs hc i a b ha hb
    rw [ha] at hb; cases hb
    rw [List.all_eq_true] at hc
    exact pure1_rel (hc a (by simpa using Array.mem_of_getElem? ha)) r
  have arr2 : ∀ (cs : Array Value), (cs.toList.all fun v => pureV v || bare v) = true → ∀ (i : Nat) a b, cs[i]? = some a → cs[i]? = some b → VRel r a b := by
    intro cs hc i a b ha hb
    rw [ha] at hb; cases hb
    rw [List.all_eq_true] at hc
    exact pure2_rel (hc a (by simpa using Array.mem_of_getElem? ha)) r
  unfold pureF at hp
  split at hp
  · exact .agg rfl (arr _ hp)
  · exact .tuple rfl (arr2 _ hp)
  · exact pure1_rel hp r

theorem pureC_rel {res : CRes} {e : Ending} {r r' : Ren} (hp : pureC res = true) (h : CRel r' res e) : CRel r res e := by
  cases res with
  | ret v => obtain ⟨v', h1, h2⟩ := h; exact ⟨v', h1, by rw [pureF_inv hp h2]; exact pureF_rel hp r⟩
  | pan v =>
    obtain ⟨v', h1, h2⟩ := h
    refine ⟨v', h1, ?_⟩
    cases h2 with
    | iface t h2 => rw [pureV_inv (show pureV _ = true from hp) h2]; exact .iface _ (pureV_rel hp r)
    | _ => cases hp

variable {P : Program}

theorem TriCall.drop {f : FuncId} {args : List Value} {H : Heap} {res : CRes} (hp : pureC res = true) (h : H.Wf → TriCall P f args H (fun r h => r = res ∧ Ext H h)) : TriCall P f args H (fun r h => r = res ∧ h = H) := by
  intro hb base w0 r w as h1 h2
  refine (h h1.hwf hb base w0 r w as h1 h2).mono ?_
  rintro e w' ⟨r', res', H', g1, g2, g3, rfl, g4⟩
  exact ⟨r, res', H, Ren.le_refl r, h1.drop g2 g1 g4, pureC_rel hp g3, rfl, rfl⟩

/-- A call without addresses does the same in any heap. -/
theorem TriCall.frame {f : FuncId} {args : List Value} {H : Heap} {res : CRes} (ha : args.all pureV = true) (hp : pureC res = true) (h : TriCall P f args Heap.empty (fun r _ => r = res)) : TriCall P f args H (fun r h => r = res ∧ h = H) := by
  intro hb base w0 r w as h1 h2
  have h3 : LRel Ren.none args as.toList := by
    refine ⟨h2.1, fun i x y hx hy => ?_⟩
    have hx' : pureV x = true := by rw [List.all_eq_true] at ha; exact ha x (List.mem_of_getElem? hx)
    rw [pureV_inv hx' (h2.2 i x y hx hy)]
    exact pureV_rel hx' _
  refine (h hb w.heap.size w Ren.none w as (Rel.empty w) h3).mono ?_
  rintro e w' ⟨r', res', H', g1, g2, g3, rfl⟩
  refine ⟨r, res', H, Ren.le_refl r, ?_, pureC_rel hp g3, rfl, rfl⟩
  have hle := h1.le
  refine ⟨h1.below.trans (g2.below.mono hle), Nat.le_trans hle g2.below.size, ?_, h1.inj, h1.wf, h1.rn⟩
  intro b L hL
  obtain ⟨ob, k1, k2⟩ := h1.dom b L hL
  refine ⟨ob, k1, ?_⟩
  cases hl : ob.live with
  | true => exact k2.of_heap (Ren.le_refl _) (g2.below.block _ (k2.lt hl))
  | false => cases ob <;> first | trivial | cases hl

/-! ### Contracts -/
def heapOf : Option (CRes × Heap) → Heap
  | some (_, h) => h
  | none => Heap.empty

structure Contract (P : Program) where
  fn : FuncId
  run : List Value → Heap → Option (CRes × Heap)
  ok : ∀ args H res H', H.Wf → run args H = some (res, H') → TriCall P fn args H (fun r h => r = res ∧ h = H')

def callOf : List (Contract P) → CallF
  | [], _, _ => none
  | c :: cs, .fn f args, H => if f = c.fn ∧ (c.run args H).isSome = true then c.run args H else callOf cs (.fn f args) H
  | _ :: _, .round _ _, _ => none

theorem TriCall.of_wf {f : FuncId} {args : List Value} {H : Heap} {Q : CRes → Heap → Prop} (h : H.Wf → TriCall P f args H Q) : TriCall P f args H Q :=
  fun hb base w0 r w as h1 h2 => h h1.hwf hb base w0 r w as h1 h2

theorem callOf_ok : ∀ cs : List (Contract P), CallOk P (callOf cs)
  | [], job, H, res, H', h => by cases h
  | c :: cs, .round l args, H, res, H', h => by cases h
  | c :: cs, .fn f args, H, res, H', h => by
    unfold callOf at h
    split at h
    · rename_i hc
      obtain ⟨rfl, _⟩ := hc
      exact TriCall.of_wf fun hw => c.ok args H res H' hw h
    · exact callOf_ok cs (.fn f args) H res H' h

/-- Contracts first; else as the code says. -/
def evWith (P : Program) (lf : Nat) (cs : List (Contract P)) : Nat → CallF
  | 0 => callOf cs
  | k + 1 => fun job H => match callOf cs job H with
    | some r => some r
    | none => ev1 P (evWith P lf cs k) lf job H

theorem evWith_ok (lf : Nat) (cs : List (Contract P)) : ∀ k, CallOk P (evWith P lf cs k)
  | 0 => callOf_ok cs
  | k + 1 => by
    intro job H res H' h
    unfold evWith at h
    split at h
    · rename_i r hr
      cases h
      exact callOf_ok cs job H res H' hr
    · exact ev1_sound (evWith_ok lf cs k) job H res H' h

/-- One call, or else the other one. -/
def orC (a b : CallF) : CallF := fun job H => match a job H with
  | some r => some r
  | none => b job H
theorem orC_ok {a b : CallF} (ha : CallOk P a) (hb : CallOk P b) : CallOk P (orC a b) := by
  intro job H res H' h
  unfold orC at h
  split at h
  · rename_i r hr; cases h; exact ha job H res H' hr
  · exact hb job H res H' h
theorem orC_hit {a b : CallF} {job : Job} {H : Heap} {r : CRes × Heap} (h : a job H = some r) : orC a b job H = some r := by
  unfold orC; rw [h]
theorem orC_miss {a b : CallF} {job : Job} {H : Heap} (h : a job H = none) : orC a b job H = b job H := by
  unfold orC; rw [h]

/-- A contract of a call that leaves nothing behind that counts. -/
def Contract.plain (f : FuncId) (run : List Value → Heap → Option CRes)
    (ok : ∀ args H res, H.Wf → run args H = some res → pureC res = true ∧ ∃ call H', CallOk P call ∧ ∃ lf, evFn P call lf f args H = some (res, H') ∧ Ext H H') : Contract P where
  fn := f
  run := fun args H => (run args H).map fun r => (r, H)
  ok := by
    intro args H res H' hw h
    cases hr : run args H with
    | none => rw [hr] at h; cases h
    | some r =>
      rw [hr] at h
      simp only [Option.map_some, Option.some.injEq, Prod.mk.injEq] at h
      obtain ⟨rfl, rfl⟩ := h
      obtain ⟨hp, call, H2, hc, lf, he, hx⟩ := ok args H r hw hr
      refine TriCall.drop hp fun _ => (ev1_sound (lf := lf) hc (.fn f args) H r H2 he).mono ?_
      rintro r2 h2 ⟨rfl, rfl⟩
      exact ⟨rfl, hx⟩

/-- A contract of a closed call. -/
def Contract.closed (f : FuncId) (res : CRes) (lf k : Nat) (hp : pureC res = true) (h : (evJob P lf k (.fn f []) Heap.empty).map (·.1) = some res) : Contract P where
  fn := f
  run := fun args H => match args with
    | [] => some (res, H)
    | _ => none
  ok := by
    intro args H res' H' hw h'
    cases args with
    | cons a as => cases h'
    | nil =>
      simp only [Option.some.injEq, Prod.mk.injEq] at h'
      obtain ⟨rfl, rfl⟩ := h'
      obtain ⟨⟨r2, H2⟩, he, rfl⟩ := Option.map_eq_some_iff.1 h
      refine TriCall.frame rfl hp (TriCall.mono (evJob_sound P lf k (.fn f []) Heap.empty _ H2 he) ?_)
      rintro r2 h2 ⟨rfl, _⟩
      rfl
end
end Go.Abs

/-
  Slices, read: the elements of a slice as lists of cells; and what the operations on slices do then.
-/
namespace Go.Abs
noncomputable section
open Go Go.RowKit
set_option linter.unusedVariables false
set_option linter.unusedSimpArgs false

/-- The elements of a row of cells, n of them, each of es cells. -/
def chunks (es : Nat) : Nat → List Value → List (List Value)
  | 0, _ => []
  | n + 1, cs => cs.take es :: chunks es n (cs.drop es)

theorem chunks_length (es : Nat) : ∀ (n : Nat) (cs : List Value), (chunks es n cs).length = n
  | 0, _ => rfl
  | n + 1, cs => by simp [chunks, chunks_length es n]

theorem chunks_get (es : Nat) : ∀ (n : Nat) (cs : List Value) (i : Nat), i < n → (chunks es n cs)[i]? = some ((cs.drop (i * es)).take es)
  | 0, _, i, h => by omega
  | n + 1, cs, 0, h => by simp [chunks]
  | n + 1, cs, i + 1, h => by
    simp only [chunks, List.getElem?_cons_succ]
    rw [chunks_get es n _ i (by omega), List.drop_drop, show es + i * es = (i + 1) * es by rw [Nat.succ_mul]; omega]

/-- A slice's elements. -/
def rdS (H : Heap) (es : Nat) : Value → Option (List (List Value))
  | .slice none 0 0 => some []
  | .slice (some ⟨b, off, none⟩) n c => match H.get b with
    | some (.cells _ _ cs) => if n ≤ capA n c ∧ off + n * es ≤ cs.length then some (chunks es n (cs.drop off)) else none
    | _ => none
  | .slice (some ⟨0, 0, some 0⟩) 0 0 => some []
  | _ => none

def blk : Value → Nat
  | .slice (some a) _ _ => a.block
  | .pointer (some a) => a.block
  | _ => 0
def offs : Value → Nat
  | .slice (some a) _ _ => a.off
  | .pointer (some a) => a.off
  | _ => 0

theorem rdS_ext {H H' : Heap} (hx : Ext H H') {es : Nat} {v : Value} {xs : List (List Value)} (h : rdS H es v = some xs) : rdS H' es v = some xs := by
  unfold rdS at h ⊢
  split at h
  · exact h
  · split at h
    · rename_i hg; rw [hx _ _ hg]; exact h
    · cases h
  · exact h
  · cases h

theorem rdS_len {H : Heap} {es : Nat} {v : Value} {xs : List (List Value)} (h : rdS H es v = some xs) : lenA v = some xs.length := by
  unfold rdS at h
  split at h
  · cases h; rfl
  · split at h
    · split at h
      · cases h; simp [lenA, chunks_length]
      · cases h
    · cases h
  · cases h; rfl
  · cases h

theorem rdS_some {H : Heap} {es : Nat} {v : Value} {xs : List (List Value)} (h : rdS H es v = some xs) {i : Nat} (hi : i < xs.length) :
    ∃ b off c own es' cs, v = .slice (some ⟨b, off, none⟩) xs.length c ∧ H.get b = some (.cells own es' cs) ∧ xs.length ≤ capA xs.length c ∧ off + xs.length * es ≤ cs.length ∧ xs = chunks es xs.length (cs.drop off) := by
  unfold rdS at h
  split at h
  · cases h; simp at hi
  · rename_i b off n c
    split at h
    · rename_i own es' cs hg
      split at h
      · rename_i hc
        cases h
        rw [chunks_length]
        exact ⟨b, off, c, own, es', cs, rfl, hg, hc.1, hc.2, rfl⟩
      · cases h
    · cases h
  · cases h; simp at hi
  · cases h

theorem rdS_elem {H : Heap} {es : Nat} {v : Value} {xs : List (List Value)} (h : rdS H es v = some xs) {i : Nat} {x : List Value} (hx : xs[i]? = some x) : x.length = es := by
  have hi := (List.getElem?_eq_some_iff.1 hx).1
  obtain ⟨b, off, c, own, es', cs, hv, hg, hc, hl, hxs⟩ := rdS_some h hi
  rw [hxs, chunks_get es _ _ i hi] at hx
  cases hx
  rw [List.length_take, List.length_drop, List.length_drop]
  have : (i + 1) * es ≤ xs.length * es := Nat.mul_le_mul_right _ hi
  rw [Nat.succ_mul] at this
  omega

variable {P : Program}

/-- The address of an element. -/
theorem rdS_index {H : Heap} {es : Nat} {v : Value} {xs : List (List Value)} (h : rdS H es v = some xs) {t e : TypeId} {i : TypeInfo} (ht : P.underlying t = some (.slice e)) (hi : P.info? e = some i) (hs : i.size = es) {n : Int} (h0 : 0 ≤ n) (hn : n < xs.length) :
    indexAddrA P t v n = some (.pointer (some ⟨blk v, offs v + n.toNat * es, none⟩)) := by
  obtain ⟨b, off, c, own, es', cs, rfl, hg, hc, hl, hxs⟩ := rdS_some h (i := n.toNat) (by omega)
  simp only [indexAddrA, ht, hi]
  rw [if_pos ⟨h0, hn⟩, hs]
  rfl

/-- A cell of an element. -/
theorem rdS_cell {H : Heap} {es : Nat} {v : Value} {xs : List (List Value)} (h : rdS H es v = some xs) {n : Nat} {x : List Value} (hx : xs[n]? = some x) {k : Nat} {u : Value} (hu : x[k]? = some u) :
    ∃ own es' cs, H.get (blk v) = some (.cells own es' cs) ∧ cs[offs v + n * es + k]? = some u := by
  have hi := (List.getElem?_eq_some_iff.1 hx).1
  obtain ⟨b, off, c, own, es', cs, rfl, hg, hc, hl, hxs⟩ := rdS_some h hi
  refine ⟨own, es', cs, hg, ?_⟩
  rw [hxs, chunks_get es _ _ n hi] at hx
  cases hx
  rw [List.getElem?_take] at hu
  split at hu
  · rw [List.drop_drop, List.getElem?_drop] at hu; exact hu
  · cases hu

theorem rdS_load {H : Heap} {es : Nat} {v : Value} {xs : List (List Value)} (h : rdS H es v = some xs) {n : Nat} {x : List Value} (hx : xs[n]? = some x) {k : Nat} {u : Value} (hu : x[k]? = some u) {t : TypeId} {i : TypeInfo} {d : TypeDesc} (hi : P.info? t = some i) (hd : P.underlying t = some d) (ha : isAggD d = false) :
    loadA P t H (blk v) (offs v + n * es + k) = some u := by
  obtain ⟨own, es', cs, hg, hc⟩ := rdS_cell h hx hu
  simp only [loadA, hg, hi, hd, ha]
  exact hc
theorem rdS_load0 {H : Heap} {es : Nat} {v : Value} {xs : List (List Value)} (h : rdS H es v = some xs) {n : Nat} {x : List Value} (hx : xs[n]? = some x) {u : Value} (hu : x[0]? = some u) {t : TypeId} {i : TypeInfo} {d : TypeDesc} (hi : P.info? t = some i) (hd : P.underlying t = some d) (ha : isAggD d = false) :
    loadA P t H (blk v) (offs v + n * es) = some u := rdS_load (k := 0) h hx hu hi hd ha

theorem rdS_loadA {H : Heap} {es : Nat} {v : Value} {xs : List (List Value)} (h : rdS H es v = some xs) {n : Nat} {x : List Value} (hx : xs[n]? = some x) {t : TypeId} {i : TypeInfo} {d : TypeDesc} (hi : P.info? t = some i) (hs : i.size = es) (hd : P.underlying t = some d) (ha : isAggD d = true) :
    loadA P t H (blk v) (offs v + n * es) = some (.agg x.toArray) := by
  have hn := (List.getElem?_eq_some_iff.1 hx).1
  obtain ⟨b, off, c, own, es', cs, rfl, hg, hc, hl, hxs⟩ := rdS_some h hn
  rw [hxs, chunks_get es _ _ n hn] at hx
  cases hx
  have : (n + 1) * es ≤ xs.length * es := Nat.mul_le_mul_right _ hn
  rw [Nat.succ_mul] at this
  simp only [loadA, blk, offs, hg, hi, hd, ha, if_true, hs]
  rw [if_pos (by omega), List.drop_drop]

/-- A slice of it, from a number on. -/
theorem rdS_from {H : Heap} {es : Nat} {v : Value} {xs : List (List Value)} (h : rdS H es v = some xs) {t e : TypeId} {i : TypeInfo} (he : elemA P t = some (e, i)) (hs : i.size = es) {n : Nat} (hn : n ≤ xs.length) (hpos : 0 < n) (hb : ∀ b off n c, v = .slice (some ⟨b, off, none⟩) n c → c < BIG) :
    ∃ v', sliceA P t v (some n) none none H = some v' ∧ rdS H es v' = some (xs.drop n) ∧ ∀ b off n c, v' = .slice (some ⟨b, off, none⟩) n c → c < BIG := by
  obtain ⟨b, off, c, own, es', cs, rfl, hg, hc, hl, hxs⟩ := rdS_some h (i := 0) (by omega)
  have hcb := hb b off _ c rfl
  have hcap : capA xs.length c = c := by unfold capA; rw [if_pos hcb]
  rw [hcap] at hc
  simp only [sliceA, he, hs]
  rw [if_pos (by simp only [Option.getD_some, Option.getD_none, hcap]; omega), if_pos hcb]
  refine ⟨_, rfl, ?_, ?_⟩
  · simp only [Option.getD_some, Option.getD_none]
    have e1 : ((xs.length : Int) - (n : Int)).toNat = xs.length - n := by omega
    have e2 : ((c : Int) - (n : Int)).toNat = c - n := by omega
    rw [e1, e2]
    have hmul : n * es ≤ xs.length * es := Nat.mul_le_mul_right _ hn
    by_cases hcn : (c : Int) = n
    · rw [if_pos hcn]
      have : xs.length - n = 0 := by omega
      simp only [rdS, hg, this]
      rw [if_pos ⟨Nat.zero_le _, by omega⟩]
      simp only [chunks]
      rw [List.drop_eq_nil_of_le (by omega)]
    · rw [if_neg hcn]
      simp only [rdS, hg, Int.toNat_natCast]
      have hsub : (xs.length - n) * es = xs.length * es - n * es := Nat.sub_mul _ _ _
      rw [if_pos ⟨by unfold capA; split <;> omega, by omega⟩]
      congr 1
      apply List.ext_getElem?
      intro j
      rw [List.getElem?_drop]
      by_cases hj : j < xs.length - n
      · rw [chunks_get es _ _ j hj, List.drop_drop]
        conv => rhs; rw [hxs]
        rw [chunks_get es _ _ (n + j) (by omega), List.drop_drop]
        congr 3
        rw [Nat.add_mul]; omega
      · rw [List.getElem?_eq_none (by rw [chunks_length]; omega), List.getElem?_eq_none (by omega)]
  · intro b' off' n' c' h'
    have : c' = c - n := by
      simp only [Option.getD_some, Option.getD_none, Value.slice.injEq] at h'
      have := h'.2.2; omega
    omega

/-! ### Whole numbers -/
def asInt : Value → Option Int
  | .int _ n => some n
  | _ => none
def rdInts (H : Heap) (k : IntKind) (v : Value) : Option (List Int) := match rdS H 1 v with
  | some xs => xs.mapM fun x => match x with
    | [.int k' n] => if k' = k then some n else none
    | _ => none
  | none => none

theorem rdInts_rd {H : Heap} {k : IntKind} {v : Value} {l : List Int} (h : rdInts H k v = some l) : rdS H 1 v = some (l.map fun n => [.int k n]) := by
  unfold rdInts at h
  split at h
  · rename_i xs hx
    rw [hx]
    congr 1
    clear hx
    induction xs generalizing l with
    | nil => simp at h; subst h; rfl
    | cons x xs ih =>
      rw [List.mapM_cons] at h
      simp only [Option.bind_eq_bind, Option.bind_eq_some_iff, Option.pure_def, Option.some.injEq] at h
      obtain ⟨n, hn, ns, hns, rfl⟩ := h
      rw [List.map_cons, ← ih hns]
      split at hn
      · split at hn
        · rename_i hk; subst hk; cases hn; rfl
        · cases hn
      · cases hn
  · cases h

theorem rdInts_of {H : Heap} {k : IntKind} {v : Value} {l : List Int} (h : rdS H 1 v = some (l.map fun n => [.int k n])) : rdInts H k v = some l := by
  unfold rdInts
  rw [h]
  simp only
  induction l generalizing v with
  | nil => rfl
  | cons n l ih =>
    rw [List.map_cons, List.mapM_cons]
    have : ∀ l : List Int, (l.map fun n => [Value.int k n]).mapM (fun x => match x with | [.int k' n] => if k' = k then some n else none | _ => none) = some l := by
      intro l
      induction l with
      | nil => rfl
      | cons n l ih => rw [List.map_cons, List.mapM_cons, ih]; simp
    rw [this]; simp

/-- An element of a row of whole numbers: its address, and what stands there. -/
theorem rdInts_at {H : Heap} {k : IntKind} {v : Value} {l : List Int} (h : rdInts H k v = some l) {n : Nat} {x : Int} (hx : l[n]? = some x) {t e : TypeId} {i : TypeInfo} {d : TypeDesc} (ht : P.underlying t = some (.slice e)) (hi : P.info? e = some i) (hs : i.size = 1) (hd : P.underlying e = some d) (ha : isAggD d = false) :
    indexAddrA P t v (n : Int) = some (.pointer (some ⟨blk v, offs v + n, none⟩)) ∧ loadA P e H (blk v) (offs v + n) = some (.int k x) := by
  have h1 := rdInts_rd h
  have hn := (List.getElem?_eq_some_iff.1 hx).1
  have hm : (l.map fun n => [Value.int k n])[n]? = some [.int k x] := by rw [List.getElem?_map, hx]; rfl
  have a1 := rdS_index h1 ht hi hs (n := (n : Int)) (by omega) (by simp; omega)
  have a2 := rdS_load0 h1 hm (u := .int k x) rfl hi hd ha
  simp only [Int.toNat_natCast, Nat.mul_one] at a1 a2
  exact ⟨a1, a2⟩

/-- A slice whose capacity is known. -/
def small : Value → Bool
  | .slice _ _ c => Nat.blt c BIG
  | _ => true

/-! ### Parts of a function's code -/
def cKid : Code → Nat → Code
  | .seq a _, 0 | .cond _ a _, 0 | .block _ a, 0 | .loop a, 0 | .scope a, 0 | .rangeFunc _ _ a _, 0 => a
  | .seq _ b, _ | .cond _ _ b, _ | .rangeFunc _ _ _ b, _ => b
  | c, _ => c
def cAt (f : Func) (p : List Nat) : Code := p.foldl cKid (f.body.getD .skip)

theorem evDraw_tab {call : CallF} {nt : Nat} {ops : Array Oper} {env : Env} {ds : List ADef} {H : Heap} {tab : List (Nat × List Nat)} (h : (P.follows .mixedOrders && ordOk ops) = true) (ht : winTab ops = tab) :
    evDraw P call nt ops env ds H = drawEnd P ops ds tab (drawOps P call nt ops ops.toList env H) := by
  unfold evDraw; rw [h, ht]; rfl

/-- A region whose last operation gives up. -/
theorem drawPan_tab {call : CallF} {nt : Nat} {ops : Array Oper} {env : Env} {ds : List ADef} {H : Heap} {tab : List (Nat × List Nat)} (h : (P.follows .mixedOrders && ordOk ops && lastAfter ops) = true) (ht : winTab ops = tab) :
    drawPan P call nt ops env ds H = drawPanT P call nt ops ds tab ops.toList.getLast? (drawOps P call nt ops ops.toList.dropLast env H) := by
  unfold drawPan; rw [h, ht]; rfl

/-- A region that holds blocks back. -/
theorem evDraw_held {call : CallF} {nt : Nat} {ops : Array Oper} {env : Env} {ds : List ADef} {H : Heap} {tab : List (Nat × List Nat)} {atab : List (Nat × TypeId × List Nat)} {al : List (Nat × Nat × TypeId)} (h : (P.follows .mixedOrders && ordOk ops) = false)
    (h2 : (P.follows .mixedOrders && ordOk (repl ops) && preOk ops) = true) (ht : winTab (repl ops) = tab) (hat : alTab ops = atab) (hal : allocsL ops.toList 0 = al) :
    evDraw P call nt ops env ds H = evHeld P call nt (repl ops) ds tab atab H.next (holdA P al env H) := by
  unfold evDraw; rw [h, h2, ht, hat, hal]; rfl
theorem repl_toList (ops : Array Oper) : (repl ops).toList = ops.toList.map replOp := by simp [repl]
end
end Go.Abs

/-
  What 'simp' needs to run code on values that are not all known.
-/
namespace Go.Abs
open Go Go.RowKit
attribute [simp] cAt cKid opA putA evA Env.val_set pureV pure0 binA intBinA drawEnd partsA optA winAt heapAt sameAt evHeld drawEnd2 holdA heldAt repl_toList replOp guardA_repl

/- These are no 'rfl' rules on purpose: a side goal that is closed by 'rfl' rules alone is refused ('failed to assign proof'). -/
@[simp] theorem dstOk_none (nt : Nat) : dstOk nt none = true := by rw [dstOk]
@[simp] theorem dstOk_some (nt d : Nat) : dstOk nt (some d) = decide (d < nt) := by rw [dstOk]
@[simp] theorem guardA_def (ops : Array Oper) (env : Env) (dst : Option Tmp) (op : Op) (ty : TypeId) (pos : String) (after : Array Edge) (j : Nat) (want : Bool) : guardA ops env ⟨dst, op, ty, pos, after, some (j, want)⟩ = (match (ops[j]?).bind (·.dst) with
    | some t => match env.val t with
      | .bool b => b == want
      | _ => false
    | none => false) := by rw [guardA]; rfl
@[simp] theorem guardA_none (ops : Array Oper) (env : Env) (dst : Option Tmp) (op : Op) (ty : TypeId) (pos : String) (after : Array Edge) : guardA ops env ⟨dst, op, ty, pos, after, none⟩ = true := by rw [guardA]
@[simp] theorem aboutOk_def (P : Program) (env : Env) (dst : Option Tmp) (op : Op) (ty : TypeId) (pos : String) (after : Array Edge) (g : Option (Nat × Bool)) : aboutOk P env ⟨dst, op, ty, pos, after, g⟩ = (match op with
    | .call c => match c.callee with
      | .builtin _ => true
      | .value f => match evA env f with
        | some (.func (.func g) _ _) => decide (g < P.funcs.size)
        | some _ => true
        | none => false
      | .invoke _ _ => false
    | _ => true) := by rw [aboutOk]; rfl

/-- What an operation's answer leads to. -/
noncomputable def stepK (P : Program) (call : CallF) (nt : Nat) (rd : Option Nat) (ops : Array Oper) (rest : List Oper) (dst : Option Tmp) (env : Env) (ds : List ADef) : Option (ORes × Heap) → Option Out
  | some (.val v, H') => evOps P call nt rd ops rest (putA env dst v) ds H'
  | some (.call f args, H') => match call (.fn f args) H' with
    | some (.ret v, H2) => evOps P call nt rd ops rest (putA env dst v) ds H2
    | some (.pan v, H2) => some (.panic v, env, ds, H2)
    | none => none
  | some (.round l args, H') => match call (.round l args) H' with
    | some (.ret v, H2) => evOps P call nt rd ops rest (putA env dst v) ds H2
    | some (.pan v, H2) => some (.panic v, env, ds, H2)
    | none => none
  | some (.panic v, H') => some (.panic v, env, ds, H')
  | some (.defer f args, H') => match rd.isNone with
    | true => evOps P call nt rd ops rest (putA env dst undef) (.fn f args :: ds) H'
    | false => none
  | _ => none
noncomputable def callK (P : Program) (call : CallF) (nt : Nat) (rd : Option Nat) (ops : Array Oper) (rest : List Oper) (dst : Option Tmp) (env : Env) (ds : List ADef) : Option (CRes × Heap) → Option Out
  | some (.ret v, H2) => evOps P call nt rd ops rest (putA env dst v) ds H2
  | some (.pan v, H2) => some (.panic v, env, ds, H2)
  | none => none
noncomputable def oneK (call : CallF) : Option (ORes × Heap) → Option (Value × Heap)
  | some (.val v, H') => some (v, H')
  | some (.call f args, H') => match call (.fn f args) H' with
    | some (.ret v, H2) => some (v, H2)
    | _ => none
  | _ => none
noncomputable def oneC' : Option (CRes × Heap) → Option (Value × Heap)
  | some (.ret v, H2) => some (v, H2)
  | _ => none
noncomputable def drawK (P : Program) (call : CallF) (nt : Nat) (ops : Array Oper) (o : Oper) (rest : List Oper) (env : Env) (H : Heap) : Option (Value × Heap) → Option (List DSt × Env × Heap)
  | some (v, H') => match drawOps P call nt ops rest (putA env o.dst v) H' with
    | some (l, e, h) => some ((o, env, H, v) :: l, e, h)
    | none => none
  | none => none
noncomputable def drawC (x : DSt) : Option (List DSt × Env × Heap) → Option (List DSt × Env × Heap)
  | some (l, e, h) => some (x :: l, e, h)
  | none => none
section
variable {P : Program} {call : CallF} {nt : Nat} {rd : Option Nat} {ops : Array Oper} {env : Env} {ds : List ADef} {H H' : Heap} {rest : List Oper} {dst : Option Tmp} {v : Value} {o : Oper}
@[simp] theorem evOps_nil : evOps P call nt rd ops [] env ds H = some (.normal, env, ds, H) := rfl
theorem evOps_go (hd : dstOk nt o.dst = true) (hg : guardA ops env o = true) : evOps P call nt rd ops (o :: rest) env ds H = stepK P call nt rd ops rest o.dst env ds (opA P env o H) := by
  rw [evOps, hd, hg]; rfl
theorem evOps_no (hd : dstOk nt o.dst = true) (hg : guardA ops env o = false) (ha : aboutOk P env o = true) : evOps P call nt rd ops (o :: rest) env ds H = evOps P call nt rd ops rest (putA env o.dst undef) ds H := by
  rw [evOps, hd, hg, ha]
@[simp] theorem evOps_plain {op : Op} {ty : TypeId} {pos : String} {after : Array Edge} (hd : dstOk nt dst = true) : evOps P call nt rd ops (⟨dst, op, ty, pos, after, none⟩ :: rest) env ds H = stepK P call nt rd ops rest dst env ds (opA P env ⟨dst, op, ty, pos, after, none⟩ H) :=
  evOps_go hd rfl
@[simp] theorem evOps_if {op : Op} {ty : TypeId} {pos : String} {after : Array Edge} {g : Nat × Bool} (hd : dstOk nt dst = true) (hg : guardA ops env ⟨dst, op, ty, pos, after, some g⟩ = true) : evOps P call nt rd ops (⟨dst, op, ty, pos, after, some g⟩ :: rest) env ds H = stepK P call nt rd ops rest dst env ds (opA P env ⟨dst, op, ty, pos, after, some g⟩ H) :=
  evOps_go hd hg
@[simp] theorem evOps_ifnot {op : Op} {ty : TypeId} {pos : String} {after : Array Edge} {g : Nat × Bool} (hd : dstOk nt dst = true) (hg : guardA ops env ⟨dst, op, ty, pos, after, some g⟩ = false) (ha : aboutOk P env ⟨dst, op, ty, pos, after, some g⟩ = true) : evOps P call nt rd ops (⟨dst, op, ty, pos, after, some g⟩ :: rest) env ds H = evOps P call nt rd ops rest (putA env dst undef) ds H :=
  evOps_no hd hg ha
@[simp] theorem stepK_val : stepK P call nt rd ops rest dst env ds (some (.val v, H')) = evOps P call nt rd ops rest (putA env dst v) ds H' := rfl
@[simp] theorem stepK_call {f : FuncId} {args : List Value} : stepK P call nt rd ops rest dst env ds (some (.call f args, H')) = callK P call nt rd ops rest dst env ds (call (.fn f args) H') := rfl
@[simp] theorem stepK_round {l : Nat} {args : List Value} : stepK P call nt rd ops rest dst env ds (some (.round l args, H')) = callK P call nt rd ops rest dst env ds (call (.round l args) H') := rfl
@[simp] theorem stepK_panic : stepK P call nt rd ops rest dst env ds (some (.panic v, H')) = some (.panic v, env, ds, H') := rfl
@[simp] theorem stepK_defer {f : FuncId} {args : List Value} : stepK P call nt none ops rest dst env ds (some (.defer f args, H')) = evOps P call nt none ops rest (putA env dst undef) (.fn f args :: ds) H' := rfl
@[simp] theorem callK_ret : callK P call nt rd ops rest dst env ds (some (.ret v, H')) = evOps P call nt rd ops rest (putA env dst v) ds H' := rfl
@[simp] theorem callK_pan : callK P call nt rd ops rest dst env ds (some (.pan v, H')) = some (.panic v, env, ds, H') := rfl
@[simp] theorem oneK_val : oneK call (some (.val v, H')) = some (v, H') := rfl
@[simp] theorem oneK_call {f : FuncId} {args : List Value} : oneK call (some (.call f args, H')) = oneC' (call (.fn f args) H') := rfl
@[simp] theorem oneC'_ret : oneC' (some (.ret v, H')) = some (v, H') := rfl
@[simp] theorem oneC'_pan : oneC' (some (.pan v, H')) = none := rfl
@[simp] theorem drawOps_nil : drawOps P call nt ops [] env H = some ([], env, H) := rfl
@[simp] theorem drawOps_cons : drawOps P call nt ops (o :: rest) env H = drawK P call nt ops o rest env H (drawOne P call nt ops o env H) := by
  rw [drawOps]; rfl
@[simp] theorem drawK_some : drawK P call nt ops o rest env H (some (v, H')) = drawC (o, env, H, v) (drawOps P call nt ops rest (putA env o.dst v) H') := rfl
@[simp] theorem drawK_none : drawK P call nt ops o rest env H none = none := rfl
@[simp] theorem drawC_none {x : DSt} : drawC x none = none := rfl
@[simp] theorem drawC_some {x : DSt} {l : List DSt} {e : Env} : drawC x (some (l, e, H)) = some (x :: l, e, H) := rfl
@[simp] theorem drawOne_plain {op : Op} {ty : TypeId} {pos : String} {after : Array Edge} (hd : dstOk nt dst = true) : drawOne P call nt ops ⟨dst, op, ty, pos, after, none⟩ env H = oneK call (opA P env ⟨dst, op, ty, pos, after, none⟩ H) := by
  unfold drawOne; simp only [hd]; rfl
@[simp] theorem drawOne_if {op : Op} {ty : TypeId} {pos : String} {after : Array Edge} {g : Nat × Bool} (hd : dstOk nt dst = true) (hg : guardA ops env ⟨dst, op, ty, pos, after, some g⟩ = true) : drawOne P call nt ops ⟨dst, op, ty, pos, after, some g⟩ env H = oneK call (opA P env ⟨dst, op, ty, pos, after, some g⟩ H) := by
  unfold drawOne; simp only [hd, hg]; rfl
@[simp] theorem drawOne_ifnot {op : Op} {ty : TypeId} {pos : String} {after : Array Edge} {g : Nat × Bool} (hd : dstOk nt dst = true) (hg : guardA ops env ⟨dst, op, ty, pos, after, some g⟩ = false) (ha : aboutOk P env ⟨dst, op, ty, pos, after, some g⟩ = true) : drawOne P call nt ops ⟨dst, op, ty, pos, after, some g⟩ env H = some (undef, H) := by
  unfold drawOne; simp only [hd, hg, ha]
end

/-- The rounds of a loop. -/
noncomputable def evLoop (P : Program) (call : CallF) (lf nt : Nat) (rd : Option Nat) (c : Code) (m : Nat) (env : Env) (ds : List ADef) (H : Heap) : Option Out := loopN (evCode P call lf nt rd c) m env ds H
section
variable {P : Program} {call : CallF} {lf nt : Nat} {rd : Option Nat} {env : Env} {ds : List ADef} {H : Heap}
theorem evLoop_succ {c : Code} {m : Nat} : evLoop P call lf nt rd c (m + 1) env ds H = match evCode P call lf nt rd c env ds H with
    | some (.normal, env', ds', H') => evLoop P call lf nt rd c m env' ds' H'
    | r => r := rfl
@[simp] theorem evCode_skip : evCode P call lf nt rd .skip env ds H = some (.normal, env, ds, H) := rfl
@[simp] theorem evCode_label {l : Nat} : evCode P call lf nt rd (.label l) env ds H = some (.normal, env, ds, H) := rfl
@[simp] theorem evCode_exit {id : Nat} : evCode P call lf nt rd (.exit id) env ds H = some (.exit id, env, ds, H) := rfl
@[simp] theorem evCode_ret : evCode P call lf nt rd .ret env ds H = some (.ret, env, ds, H) := rfl
@[simp] theorem evCode_seq {a b : Code} : evCode P call lf nt rd (.seq a b) env ds H = match evCode P call lf nt rd a env ds H with
    | some (.normal, env', ds', H') => evCode P call lf nt rd b env' ds' H'
    | r => r := rfl
@[simp] theorem evCode_cond {c : Operand} {a b : Code} : evCode P call lf nt rd (.cond c a b) env ds H = match evA env c with
    | some (.bool true) => evCode P call lf nt rd a env ds H
    | some (.bool false) => evCode P call lf nt rd b env ds H
    | _ => none := rfl
@[simp] theorem evCode_block {id : Nat} {c : Code} : evCode P call lf nt rd (.block id c) env ds H = match evCode P call lf nt rd c env ds H with
    | some (.exit id', env', ds', H') => if id' = id then some (.normal, env', ds', H') else some (.exit id', env', ds', H')
    | r => r := rfl
@[simp] theorem evCode_scope {c : Code} : evCode P call lf nt rd (.scope c) env ds H = evCode P call lf nt rd c env ds H := rfl
@[simp] theorem evCode_loop {c : Code} : evCode P call lf nt rd (.loop c) env ds H = evLoop P call lf nt rd c lf env ds H := rfl
@[simp] theorem evCode_ops {id : Nat} {ops : Array Oper} : evCode P call lf nt rd (.region id ops false) env ds H = evOps P call nt rd ops ops.toList env ds H := rfl
@[simp] theorem evCode_draw {id : Nat} {ops : Array Oper} : evCode P call lf nt rd (.region id ops true) env ds H = orDraw (evDraw P call nt ops env ds H) (drawPan P call nt ops env ds H) := rfl
@[simp] theorem drawEnd_none {ops : Array Oper} {tab : List (Nat × List Nat)} : drawEnd P ops ds tab none = none := rfl
theorem drawPanT_call {ops : Array Oper} {tab : List (Nat × List Nat)} {o : Oper} {l : List DSt} {env' : Env} {H' H1 H2 : Heap} {f : FuncId} {args : List Value} {v : Value} (hd : dstOk nt o.dst = true) (hg : guardA ops env' o = true) (hop : opA P env' o H' = some (.call f args, H1)) (hc : call (.fn f args) H1 = some (.pan v, H2)) (hw : tab.all (winAt P ops (l ++ [(o, env', H', undef)]) H') = true) :
    drawPanT P call nt ops ds tab (some o) (some (l, env', H')) = some (.panic v, env', ds, H2) := by
  simp only [drawPanT, hd, hg, hop, hc, hw, cond_true]
noncomputable def panC (env' : Env) (ds : List ADef) : Option (CRes × Heap) → Option Out
  | some (.pan v, H2) => some (.panic v, env', ds, H2)
  | _ => none
noncomputable def panK (call : CallF) (env' : Env) (ds : List ADef) : Option (ORes × Heap) → Option Out
  | some (.call f args, H1) => panC env' ds (call (.fn f args) H1)
  | _ => none
@[simp] theorem panC_pan {env' : Env} {v : Value} {H2 : Heap} : panC env' ds (some (.pan v, H2)) = some (.panic v, env', ds, H2) := rfl
@[simp] theorem panK_call {env' : Env} {f : FuncId} {args : List Value} {H1 : Heap} : panK call env' ds (some (.call f args, H1)) = panC env' ds (call (.fn f args) H1) := rfl
@[simp] theorem drawPanT_plain {ops : Array Oper} {dst : Option Tmp} {op : Op} {ty : TypeId} {pos : String} {after : Array Edge} {l : List DSt} {env' : Env} {H' : Heap} (hd : dstOk nt dst = true) :
    drawPanT P call nt ops ds [] (some ⟨dst, op, ty, pos, after, none⟩) (some (l, env', H')) = panK call env' ds (opA P env' ⟨dst, op, ty, pos, after, none⟩ H') := by
  have hg : guardA ops env' ⟨dst, op, ty, pos, after, none⟩ = true := rfl
  simp only [drawPanT, hd, hg]
  generalize opA P env' ⟨dst, op, ty, pos, after, none⟩ H' = r
  rcases r with _ | ⟨x, H1⟩
  · rfl
  · cases x with
    | call f args =>
      simp only [panK, panC]
      generalize call (.fn f args) H1 = q
      rcases q with _ | ⟨y, H2⟩
      · rfl
      · cases y <;> rfl
    | _ => rfl
@[simp] theorem orDraw_some {x : Out} {y : Option Out} : orDraw (some x) y = some x := rfl
@[simp] theorem orDraw_none {y : Option Out} : orDraw none y = y := rfl
end
attribute [simp] evFn evLeave resultsA resultA envOf evDef evS evOpsS plainS isRecover

theorem small_of {v : Value} (h : ∀ b off n c, v = .slice (some ⟨b, off, none⟩) n c → c < BIG) {H : Heap} {es : Nat} {xs : List (List Value)} (hr : rdS H es v = some xs) : small v = true := by
  unfold rdS at hr
  split at hr
  · rfl
  · rename_i b off n c; simp [small]; exact h _ _ _ _ rfl
  · rfl
  · cases hr
theorem small_lt {v : Value} (h : small v = true) : ∀ b off n c, v = .slice (some ⟨b, off, none⟩) n c → c < BIG := by
  rintro b off n c rfl; simpa [small] using h

/-- The length of a slice. -/
theorem len_of {P : Program} {H H' : Heap} {es : Nat} {v : Value} {xs : List (List Value)} (hr : rdS H es v = some xs) {t e : TypeId} (ht : P.underlying t = some (.slice e)) :
    builtinA P .len #[t] [v] H' = some (.val (.int .i64 xs.length), H') := by
  have := rdS_len hr
  cases v <;> simp [lenA] at this
  simp [builtinA, ht, this]

/-! ### Heaps that grow -/
theorem get_push_self (H : Heap) (o : AObj) : (H.push o).get H.next = some o := by rw [Heap.get_push, if_pos rfl]
theorem get_push_ne {H : Heap} {o : AObj} {b : Nat} (h : b ≠ H.next) : (H.push o).get b = H.get b := by rw [Heap.get_push, if_neg h]
theorem get_set_self (H : Heap) (c : Nat) (o : AObj) : (H.set c o).get c = some o := by rw [Heap.get_set, if_pos rfl]
theorem get_set_ne {H : Heap} {o : AObj} {b c : Nat} (h : b ≠ c) : (H.set c o).get b = H.get b := by rw [Heap.get_set, if_neg h]
theorem loadA_push {P : Program} {t : TypeId} {H : Heap} {o : AObj} {b off : Nat} (h : b ≠ H.next) : loadA P t (H.push o) b off = loadA P t H b off := by simp only [loadA, get_push_ne h]
theorem loadA_set {P : Program} {t : TypeId} {H : Heap} {o : AObj} {b c off : Nat} (h : b ≠ c) : loadA P t (H.set c o) b off = loadA P t H b off := by simp only [loadA, get_set_ne h]
theorem Heap.Wf.set {H : Heap} (h : H.Wf) {c : Nat} (hc : c < H.next) (o : AObj) : (H.set c o).Wf := fun b hb => by
  simp at hb; rw [get_set_ne (by omega)]; exact h b hb
theorem Ext.to_push {H H' : Heap} (h : Ext H H') (hw : H'.Wf) (o : AObj) : Ext H (H'.push o) := h.trans (Ext.push hw o)
theorem Ext.to_set {H H' : Heap} (h : Ext H H') {c : Nat} (hc : H.get c = none) (o : AObj) : Ext H (H'.set c o) := fun b ob hb => by
  rw [get_set_ne (fun e => by subst e; rw [hc] at hb; cases hb)]; exact h b ob hb

theorem callOf_cons {P : Program} {c : Contract P} {cs : List (Contract P)} {f : FuncId} {args : List Value} {H : Heap} : callOf (c :: cs) (.fn f args) H = if f = c.fn ∧ (c.run args H).isSome = true then c.run args H else callOf cs (.fn f args) H := rfl
theorem callOf_hit {P : Program} {c : Contract P} {cs : List (Contract P)} {f : FuncId} {args : List Value} {H : Heap} {p : CRes × Heap} (hf : f = c.fn) (h : c.run args H = some p) : callOf (c :: cs) (.fn f args) H = some p := by
  rw [callOf_cons, if_pos ⟨hf, by rw [h]; rfl⟩, h]
theorem callOf_miss {P : Program} {c : Contract P} {cs : List (Contract P)} {f : FuncId} {args : List Value} {H : Heap} (hf : f ≠ c.fn) : callOf (c :: cs) (.fn f args) H = callOf cs (.fn f args) H := by
  rw [callOf_cons, if_neg (fun h => hf h.1)]

/-- A block of a slice that is not empty stands in the heap. -/
theorem rdS_blk {H : Heap} {es : Nat} {v : Value} {xs : List (List Value)} (h : rdS H es v = some xs) (hw : H.Wf) (hn : 0 < xs.length) : blk v < H.next := by
  obtain ⟨b, off, c, own, es', cs, rfl, hg, _⟩ := rdS_some h hn
  exact hw.lt hg

attribute [simp] newA isAggD partA
@[simp] theorem cells_agg {cs : Array Value} : (Value.agg cs).cells = cs := rfl
@[simp] theorem cells_int {k : IntKind} {n : Int} : (Value.int k n).cells = #[.int k n] := rfl
@[simp] theorem cells_bool {b : Bool} : (Value.bool b).cells = #[.bool b] := rfl
@[simp] theorem cells_string {b : ByteArray} : (Value.string b).cells = #[.string b] := rfl
@[simp] theorem cells_pointer {b : Option Addr} : (Value.pointer b).cells = #[.pointer b] := rfl
@[simp] theorem cells_slice {b : Option Addr} {n c : Nat} : (Value.slice b n c).cells = #[.slice b n c] := rfl
@[simp] theorem cells_map {b : Option Nat} : (Value.map b).cells = #[.map b] := rfl
@[simp] theorem cells_func {f : Fn} {xs ys : Array Value} : (Value.func f xs ys).cells = #[.func f xs ys] := rfl
@[simp] theorem cells_nilFunc : Value.nilFunc.cells = #[.nilFunc] := rfl
@[simp] theorem cells_nilIface : Value.nilIface.cells = #[.nilIface] := rfl
@[simp] theorem cells_iface {t : TypeId} {x : Value} : (Value.iface t x).cells = #[.iface t x] := rfl
@[simp] theorem oneC_int {k : IntKind} {n : Int} : oneC (Value.int k n) = true := rfl
@[simp] theorem oneC_bool {b : Bool} : oneC (Value.bool b) = true := rfl
@[simp] theorem oneC_string {b : ByteArray} : oneC (Value.string b) = true := rfl
@[simp] theorem oneC_pointer {b : Option Addr} : oneC (Value.pointer b) = true := rfl
@[simp] theorem oneC_slice {b : Option Addr} {n c : Nat} : oneC (Value.slice b n c) = true := rfl
@[simp] theorem oneC_map {b : Option Nat} : oneC (Value.map b) = true := rfl
@[simp] theorem oneC_func {f : Fn} {xs ys : Array Value} : oneC (Value.func f xs ys) = true := rfl
@[simp] theorem oneC_nilFunc : oneC Value.nilFunc = true := rfl
@[simp] theorem oneC_nilIface : oneC Value.nilIface = true := rfl
@[simp] theorem oneC_iface {t : TypeId} {x : Value} : oneC (Value.iface t x) = true := rfl

/-! ### A function's code, part by part -/
noncomputable def fnEnd (P : Program) (call : CallF) (lf : Nat) (fn : Func) : Option Out → Option (CRes × Heap)
  | some (.normal, env', ds', H') => evLeave P call lf fn env' ds' .ret H'
  | some (.ret, env', ds', H') => evLeave P call lf fn env' ds' .ret H'
  | some (.panic v, env', ds', H') => evLeave P call lf fn env' ds' (.pan v) H'
  | _ => none

section
variable {P : Program} {call : CallF} {lf nt : Nat} {rd : Option Nat} {env : Env} {ds : List ADef} {H : Heap}
theorem evFn_at {f : FuncId} {fn : Func} {args : List Value} (hf : P.funcs[f]? = some fn) (hb : fn.body = some (cAt fn [])) (hn : args.length ≤ fn.ntmps) :
    evFn P call lf f args H = fnEnd P call lf fn (evCode P call lf fn.ntmps none (cAt fn []) (envOf 0 args .nil) [] H) := by
  unfold evFn
  simp only [hf, hb, if_pos hn]
  unfold fnEnd
  rfl
theorem ev_then {c a b : Code} (h : c = .seq a b) {env' : Env} {ds' : List ADef} {H' : Heap} (h1 : evCode P call lf nt rd a env ds H = some (.normal, env', ds', H')) : evCode P call lf nt rd c env ds H = evCode P call lf nt rd b env' ds' H' := by
  subst h; rw [evCode_seq, h1]
theorem ev_stop {c a b : Code} (h : c = .seq a b) {x : AExit} {env' : Env} {ds' : List ADef} {H' : Heap} (h1 : evCode P call lf nt rd a env ds H = some (x, env', ds', H')) (hx : x ≠ .normal) : evCode P call lf nt rd c env ds H = some (x, env', ds', H') := by
  subst h; rw [evCode_seq, h1]
  cases x <;> first | rfl | exact absurd rfl hx
end

@[simp] theorem builtin_min2 {P : Program} {H : Heap} {ts : Array TypeId} {k : IntKind} {a b : Int} : builtinA P .min ts [.int k a, .int k b] H = some (.val (.int k (if b < a then b else a)), H) := by
  simp [builtinA, foldMin]
@[simp] theorem builtin_max2 {P : Program} {H : Heap} {ts : Array TypeId} {k : IntKind} {a b : Int} : builtinA P .max ts [.int k a, .int k b] H = some (.val (.int k (if b > a then b else a)), H) := by
  simp [builtinA, foldMax]
@[simp] theorem builtin_len_slice {P : Program} {H : Heap} {t e : TypeId} {x : Option Addr} {n c : Nat} (ht : P.underlying t = some (.slice e)) : builtinA P .len #[t] [.slice x n c] H = some (.val (.int .i64 n), H) := by
  simp [builtinA, ht]
@[simp] theorem builtin_recover {P : Program} {H : Heap} {ts : Array TypeId} : builtinA P .recover ts [] H = some (.recover, H) := by
  simp [builtinA]

attribute [simp] eqL
@[simp] theorem eqKind_self (k : IntKind) : eqKind k k = true := by cases k <;> rfl
@[simp] theorem eqAddr_self (b o : Nat) : eqAddr (some ⟨b, o, none⟩) (some ⟨b, o, none⟩) = true := by simp [eqAddr]
@[simp] theorem eqV_agg {a b : Array Value} : eqV (.agg a) (.agg b) = eqL a.toList b.toList := rfl
@[simp] theorem eqV_tuple {a b : Array Value} : eqV (.tuple a) (.tuple b) = eqL a.toList b.toList := rfl
@[simp] theorem eq0_int (k : IntKind) (n : Int) : eq0 (.int k n) (.int k n) = true := by simp [eq0]
@[simp] theorem eq0_bool (b : Bool) : eq0 (.bool b) (.bool b) = true := by simp [eq0]
@[simp] theorem eq0_pointer (b o : Nat) : eq0 (.pointer (some ⟨b, o, none⟩)) (.pointer (some ⟨b, o, none⟩)) = true := by simp [eq0]
@[simp] theorem eq0_slice (b o n c : Nat) : eq0 (.slice (some ⟨b, o, none⟩) n c) (.slice (some ⟨b, o, none⟩) n c) = true := by simp [eq0]
@[simp] theorem eq0_func (f : Nat) : eq0 (.func (.func f) #[] #[]) (.func (.func f) #[] #[]) = true := by simp [eq0]
@[simp] theorem eqV_int (k : IntKind) (n : Int) : eqV (.int k n) (.int k n) = true := eq0_int k n
@[simp] theorem eqV_bool (b : Bool) : eqV (.bool b) (.bool b) = true := eq0_bool b
@[simp] theorem eqV_pointer (b o : Nat) : eqV (.pointer (some ⟨b, o, none⟩)) (.pointer (some ⟨b, o, none⟩)) = true := eq0_pointer b o
@[simp] theorem eqV_slice (b o n c : Nat) : eqV (.slice (some ⟨b, o, none⟩) n c) (.slice (some ⟨b, o, none⟩) n c) = true := eq0_slice b o n c
theorem rdS_one {H : Heap} {es : Nat} {v : Value} {xs : List (List Value)} (h : rdS H es v = some xs) : v.cells = #[v] ∧ oneC v = true ∧ eqV v v = true ∧ eq0 v v = true := by
  unfold rdS at h
  split at h
  · exact ⟨rfl, rfl, by rfl, by rfl⟩
  · exact ⟨rfl, rfl, by simp, by simp⟩
  · exact ⟨rfl, rfl, by rfl, by rfl⟩
  · cases h
end Go.Abs

/-
  From what a row's arguments read to a heap of ours, and back: the frame of a row's proof.
-/
namespace Go.Abs
open Go Go.RowKit Go.ChangeShapes
set_option linter.unusedVariables false
set_option linter.unusedSimpArgs false

variable {D : Type} {P : Program}

/-! ### What a value of ours reads as -/
inductive AR (P : Program) (H : Heap) : TypeId → List Value → DataW D → Prop
  | bool {t : TypeId} {b : Bool} (ht : P.underlying t = some .bool) : AR P H t [.bool b] (.lit (.bool b))
  | int {t : TypeId} {k : IntKind} {n : Int} (ht : P.underlying t = some (.int k)) (hw : (Lit.int k n).wf = true) : AR P H t [.int k n] (.lit (.int k n))
  | string {t : TypeId} {s : ByteArray} (ht : P.underlying t = some .string) (hw : s.size ≤ maxLen) : AR P H t [.string s] (.lit (.string s.data.toList))
  | sliceNil {t e : TypeId} (ht : P.underlying t = some (.slice e)) : AR P H t [.slice none 0 0] .nil
  | slice {t e : TypeId} {v : Value} {xs : List (List Value)} {ds sp : List (DataW D)} (ht : P.underlying t = some (.slice e)) (hr : rdS H (P.cellsOf e) v = some xs) (hs : small v = true) (hn : v ≠ .slice none 0 0)
      (hl : xs.length = ds.length) (hm : ds.length ≤ maxLen) (hx : ∀ (i : Nat) x d, xs[i]? = some x → ds[i]? = some d → AR P H e x d) : AR P H t [v] (.slice ds sp)
  | struct {t : TypeId} {fs : Array Field} {cs : List Value} {ds : List (DataW D)} (ht : P.underlying t = some (.struct fs)) (hc : cs.length = P.cellsOf t) (hl : ds.length = fs.size)
      (hx : ∀ (i : Nat) f d, fs[i]? = some f → ds[i]? = some d → AR P H f.type ((cs.drop f.offset).take (P.cellsOf f.type)) d) : AR P H t cs (.agg ds)

theorem AR.ext {H H' : Heap} (hx : Ext H H') {t : TypeId} {cs : List Value} {d : DataW D} (h : AR P H t cs d) : AR P H' t cs d := by
  induction h with
  | bool ht => exact .bool ht
  | int ht hw => exact .int ht hw
  | string ht hw => exact .string ht hw
  | sliceNil ht => exact .sliceNil ht
  | slice ht hr hs hn hl hm _ ih => exact .slice ht (rdS_ext hx hr) hs hn hl hm ih
  | struct ht hc hl _ ih => exact .struct ht hc hl ih

/-! ### Types that are served -/
def tiles (P : Program) (total : Nat) : List Field → Nat → Bool
  | [], off => off == total
  | f :: fs, off => f.offset == off && tiles P total fs (off + P.cellsOf f.type)
def plainTy (P : Program) : Nat → TypeId → Bool
  | 0, _ => false
  | n + 1, t => match P.underlying t with
    | some .bool | some (.int _) | some .string => P.cellsOf t == 1
    | some (.slice e) => P.cellsOf t == 1 && (decide (0 < P.cellsOf e) && plainTy P n e)
    | some (.struct fs) => tiles P (P.cellsOf t) fs.toList 0 && fs.toList.all fun f => plainTy P n f.type
    | _ => false

section
variable {enc : TypeId × Value → D} {base : Nat} {w0 w : World}

theorem Rel.seen {r : Ren} {H : Heap} (h : Rel base w0 r H w) {B : Nat} {C : Array Value} {e : TypeId} {fz : Nat × Nat} (hB : w.heap[B]? = some (.cells C e fz)) (hlt : B < base) (o es : Nat) {cs : List Value} (hlen : o + cs.length ≤ C.size)
    (hcs : ∀ (i : Nat) v, cs[i]? = some v → ∃ v', C[o + i]? = some v' ∧ VRel r v v') :
    Rel base w0 (r.add H.next ⟨B, o, 0, es⟩) (H.push (.cells false es cs)) w ∧ Ren.le r (r.add H.next ⟨B, o, 0, es⟩) := by
  have hf := h.fresh (Nat.le_refl H.next)
  have hle : Ren.le r (r.add H.next ⟨B, o, 0, es⟩) := Ren.le_add hf h.rn
  refine ⟨⟨h.below, h.le, ?_, ?_, ?_, by rw [Heap.next_push]; exact Nat.max_le.2 ⟨by have := h.rn; omega, Nat.le_refl _⟩⟩, hle⟩
  · intro b L hL
    simp only [Ren.add] at hL
    split at hL
    · rename_i e1; subst e1; cases hL
      exact ⟨_, get_push_self H _, C, e, fz, hB, rfl, (fun hh => by cases hh), hlen, fun i v hv => let ⟨v', h1, h2⟩ := hcs i v hv; ⟨v', h1, h2.mono hle⟩⟩
    · rename_i e1
      obtain ⟨ob, h1, h2⟩ := h.dom b L hL
      refine ⟨ob, by rw [get_push_ne e1]; exact h1, ?_⟩
      cases hl : ob.live with
      | true => exact h2.of_heap hle rfl
      | false => cases ob <;> first | trivial | cases hl
  · intro b c L M ob oc hb hc gb gc ho hlv hne
    simp only [Ren.add] at hb hc
    split at hb
    · rename_i e1
      subst e1
      rw [get_push_self] at gb
      cases gb
      cases ho
    · rename_i e1
      rw [get_push_ne e1] at gb
      split at hc
      · rename_i e2
        subst e2
        cases hc
        obtain ⟨ob', g1, g2⟩ := h.dom b L hb
        rw [gb] at g1
        cases g1
        have : base ≤ L.B := by
          cases ob with
          | cells own es cs => obtain ⟨_, _, _, _, _, h3, _⟩ := g2; exact (h3 ho).2.1
          | vol n => obtain ⟨_, _, _, h3, _⟩ := g2; exact h3
          | amap k es => obtain ⟨_, _, _, h3, _⟩ := g2; exact h3
          | loop a => obtain ⟨_, _, h3, _⟩ := g2; exact h3
          | defs => exact g2.2
          | dead => cases ho
        simp only
        omega
      · rename_i e2
        rw [get_push_ne e2] at gc
        exact h.inj b c L M ob oc hb hc gb gc ho hlv hne
  · intro b hb
    rw [get_push_ne (by simp at hb; omega)]
    exact h.wf b (by simp at hb; omega)

/-- The cells of a row, read. -/
theorem block_of_cells {a : Addr} {n : Nat} {cs : List Value} (h : w.cells? 0 a n = some cs) (hn : 0 < n) : ∃ C e fz, w.heap[a.block]? = some (.cells C e fz) ∧ a.spot = none ∧ ∀ i, i < n → C[a.off + i]? = cs[i]? := by
  obtain ⟨_, hl, hc⟩ := World.cells?_some h
  have h0 := hc 0 hn
  obtain ⟨c0, hc0⟩ : ∃ c0, cs[0]? = some c0 := by
    cases cs with
    | nil => simp at hl; omega
    | cons c _ => exact ⟨c, rfl⟩
  rw [hc0] at h0
  simp only [Addr.add, if_true, World.cell?] at h0
  split at h0
  · rename_i C e fz hB
    split at h0
    · cases h0
    · rename_i hs
      have hsp : a.spot = none := by cases hsp : a.spot with | none => rfl | some x => rw [hsp] at hs; simp at hs
      refine ⟨C, e, fz, hB, hsp, fun i hi => ?_⟩
      rw [← hc i hi]
      have e1 : a.add i = ⟨a.block, a.off + i, none⟩ := by
        unfold Addr.add
        split
        · rename_i e0; subst e0; cases a; simp_all
        · rfl
      rw [e1]
      simp [World.cell?, hB]
  · cases h0

def Absorbs (enc : TypeId × Value → D) (P : Program) (base : Nat) (w0 w : World) (fuel : Nat) : Prop :=
  ∀ (n : Nat) (t : TypeId) (cs : List Value) (x : DataW D × List MemPlace), plainTy P n t = true → DataW.trod enc P w 0 (fun _ => true) true fuel t cs = some x →
    ∀ (r : Ren) (H : Heap), Rel base w0 r H w → ∃ (r' : Ren) (H' : Heap) (acs : List Value), Ren.le r r' ∧ Ext H H' ∧ Rel base w0 r' H' w ∧ LRel r' acs cs ∧ acs.length = P.cellsOf t ∧ AR P H' t acs x.1

theorem absorb_elems {fuel : Nat} (ih : Absorbs enc P base w0 w fuel) {n : Nat} {e : TypeId} (hp : plainTy P n e = true) (css : List (List Value)) (xs : List (DataW D × List MemPlace)) (hl : css.length = xs.length)
    (hx : ∀ (i : Nat) cs, css[i]? = some cs → DataW.trod enc P w 0 (fun _ => true) true fuel e cs = xs[i]?) (r : Ren) (H : Heap) (hR : Rel base w0 r H w) :
    ∃ (r' : Ren) (H' : Heap) (acss : List (List Value)), Ren.le r r' ∧ Ext H H' ∧ Rel base w0 r' H' w ∧ acss.length = xs.length ∧
      (∀ (i : Nat) acs cs, acss[i]? = some acs → css[i]? = some cs → LRel r' acs cs) ∧ (∀ (i : Nat) acs x, acss[i]? = some acs → xs[i]? = some x → acs.length = P.cellsOf e ∧ AR P H' e acs x.1) := by
  induction css generalizing xs r H with
  | nil =>
    cases xs with
    | cons x xs => cases hl
    | nil => exact ⟨r, H, [], Ren.le_refl r, Ext.refl H, hR, rfl, (fun i a b h => by simp at h), fun i a b h => by simp at h⟩
  | cons cs css ihl =>
    cases xs with
    | nil => cases hl
    | cons x xs =>
      obtain ⟨r1, H1, acs, a1, a2, a3, a4, a5, a6⟩ := ih n e cs x hp (by simpa using hx 0 cs rfl) r H hR
      obtain ⟨r2, H2, acss, b1, b2, b3, b4, b5, b6⟩ := ihl xs (by simpa using hl) (fun i c hc => by simpa using hx (i + 1) c (by simpa using hc)) r1 H1 a3
      refine ⟨r2, H2, acs :: acss, Ren.le_trans a1 b1, a2.trans b2, b3, by simp [b4], fun i a c ha hc => ?_, fun i a y ha hy => ?_⟩
      · cases i with
        | zero => simp at ha hc; subst ha; subst hc; exact a4.mono b1
        | succ i => simp at ha hc; exact b5 i a c ha hc
      · cases i with
        | zero => simp at ha hy; subst ha; subst hy; exact ⟨a5, a6.ext b2⟩
        | succ i => simp at ha hy; exact b6 i a y ha hy

theorem absorb_fields {fuel : Nat} (ih : Absorbs enc P base w0 w fuel) {n : Nat} {total : Nat} (cs : List Value) (hlen : cs.length = total) (fs : List Field) (off : Nat) (ht : tiles P total fs off = true) (hp : fs.all (fun f => plainTy P n f.type) = true) (xs : List (DataW D × List MemPlace)) (hl : fs.length = xs.length)
    (hx : ∀ (i : Nat) f, fs[i]? = some f → DataW.trod enc P w 0 (fun _ => true) true fuel f.type ((cs.drop f.offset).take (P.cellsOf f.type)) = xs[i]?) (r : Ren) (H : Heap) (hR : Rel base w0 r H w) :
    ∃ (r' : Ren) (H' : Heap) (acs : List Value), Ren.le r r' ∧ Ext H H' ∧ Rel base w0 r' H' w ∧ off ≤ total ∧ acs.length = total - off ∧ LRel r' acs (cs.drop off) ∧
      (∀ (i : Nat) f x, fs[i]? = some f → xs[i]? = some x → off ≤ f.offset ∧ AR P H' f.type ((acs.drop (f.offset - off)).take (P.cellsOf f.type)) x.1) := by
  induction fs generalizing off xs r H with
  | nil =>
    cases xs with
    | cons x xs => cases hl
    | nil =>
      simp only [tiles, beq_iff_eq] at ht
      refine ⟨r, H, [], Ren.le_refl r, Ext.refl H, hR, by omega, by simp; omega, ?_, fun i a b h => by simp at h⟩
      rw [List.drop_eq_nil_of_le (by omega)]
      exact LRel.nil r
  | cons f fs ihl =>
    cases xs with
    | nil => cases hl
    | cons x xs =>
      simp only [tiles, Bool.and_eq_true, beq_iff_eq] at ht
      obtain ⟨hoff, ht⟩ := ht
      simp only [List.all_cons, Bool.and_eq_true] at hp
      obtain ⟨r1, H1, acs, a1, a2, a3, a4, a5, a6⟩ := ih n f.type _ x hp.1 (by simpa using hx 0 f rfl) r H hR
      obtain ⟨r2, H2, acs2, b1, b2, b3, b4, b5, b6, b7⟩ := ihl (off + P.cellsOf f.type) ht hp.2 xs (by simpa using hl) (fun i g hg => by simpa using hx (i + 1) g (by simpa using hg)) r1 H1 a3
      refine ⟨r2, H2, acs ++ acs2, Ren.le_trans a1 b1, a2.trans b2, b3, by omega, by simp [a5, b5]; omega, ?_, fun i g y hg hy => ?_⟩
      · have := (a4.mono b1).append b6
        rw [hoff, ← List.drop_drop, List.take_append_drop] at this
        exact this
      · cases i with
        | zero =>
          simp at hg hy
          subst hg; subst hy
          refine ⟨by omega, ?_⟩
          rw [hoff, Nat.sub_self, List.drop_zero, List.take_append_of_le_length (by omega), List.take_of_length_le (by omega)]
          exact a6.ext b2
        | succ i =>
          simp at hg hy
          obtain ⟨c1, c2⟩ := b7 i g y hg hy
          refine ⟨by omega, ?_⟩
          rw [List.drop_append, List.drop_eq_nil_of_le (by omega), List.nil_append, show g.offset - off - acs.length = g.offset - (off + P.cellsOf f.type) by omega]
          exact c2

theorem chunks_flatten {es : Nat} : ∀ (l : List (List Value)), (∀ x ∈ l, x.length = es) → chunks es l.length l.flatten = l
  | [], _ => rfl
  | x :: l, h => by
    have hx := h x (by simp)
    simp only [List.length_cons, chunks, List.flatten_cons]
    rw [List.take_append_of_le_length (by omega), List.take_of_length_le (by omega), List.drop_append_of_le_length (by omega), List.drop_eq_nil_of_le (by omega), List.nil_append, chunks_flatten l fun y hy => h y (by simp [hy])]
theorem flatten_length {es : Nat} : ∀ (l : List (List Value)), (∀ x ∈ l, x.length = es) → l.flatten.length = l.length * es
  | [], _ => by simp
  | x :: l, h => by
    rw [List.flatten_cons, List.length_append, h x (by simp), flatten_length l fun y hy => h y (by simp [hy]), List.length_cons, Nat.succ_mul]; omega
theorem flatten_get {es : Nat} (hes : 0 < es) : ∀ (l : List (List Value)), (∀ x ∈ l, x.length = es) → ∀ (i : Nat) v, l.flatten[i]? = some v → ∃ x, l[i / es]? = some x ∧ x[i % es]? = some v
  | [], _, i, v, h => by simp at h
  | x :: l, hl, i, v, h => by
    have hx := hl x (by simp)
    rw [List.flatten_cons] at h
    by_cases hi : i < es
    · rw [List.getElem?_append_left (by omega)] at h
      exact ⟨x, by rw [Nat.div_eq_of_lt hi]; rfl, by rw [Nat.mod_eq_of_lt hi]; exact h⟩
    · rw [List.getElem?_append_right (by omega), hx] at h
      obtain ⟨y, h1, h2⟩ := flatten_get hes l (fun y hy => hl y (by simp [hy])) (i - es) v h
      refine ⟨y, ?_, ?_⟩
      · rw [show i / es = (i - es) / es + 1 by rw [Nat.div_eq_sub_div hes (by omega)], List.getElem?_cons_succ]; exact h1
      · rw [show i % es = (i - es) % es by rw [Nat.mod_eq_sub_mod (by omega)]]; exact h2

theorem bound_of_get {w : World} {B : Nat} {o : Obj} (h : w.heap[B]? = some o) : B < w.heap.size := (Array.getElem?_eq_some_iff.1 h).1

theorem absorb (hb : base = w.heap.size) : ∀ fuel, Absorbs enc P base w0 w fuel
  | 0 => fun n t cs x _ h => by simp [DataW.trod] at h
  | fuel + 1 => by
    intro n t cs x hp h r H hR
    cases n with
    | zero => cases hp
    | succ n =>
      unfold plainTy at hp
      split at hp
      · rename_i hu
        obtain ⟨b, rfl, rfl⟩ := DataW.trod_bool hu h
        exact ⟨r, H, [.bool b], Ren.le_refl r, Ext.refl H, hR, LRel.cons (.bool b) (LRel.nil r), (beq_iff_eq.1 hp).symm, .bool hu⟩
      · rename_i k hu
        obtain ⟨m, rfl, rfl, hw⟩ := DataW.trod_int hu h
        exact ⟨r, H, [.int k m], Ren.le_refl r, Ext.refl H, hR, LRel.cons (.int k m) (LRel.nil r), (beq_iff_eq.1 hp).symm, .int hu hw⟩
      · rename_i hu
        obtain ⟨s, rfl, rfl, hw⟩ := DataW.trod_string hu h
        exact ⟨r, H, [.string s], Ren.le_refl r, Ext.refl H, hR, LRel.cons (.string s) (LRel.nil r), (beq_iff_eq.1 hp).symm, .string hu hw⟩
      · rename_i e hu
        simp only [Bool.and_eq_true, decide_eq_true_eq, beq_iff_eq] at hp
        obtain ⟨hp1, hpos, hp⟩ := hp
        rcases DataW.trod_slice hu h with ⟨rfl, rfl⟩ | ⟨a, len, cap, elems, rest, n', hn', rfl, rfl, _, hlc, hcm, hel, hread, hspare, _⟩
        · exact ⟨r, H, [.slice none 0 0], Ren.le_refl r, Ext.refl H, hR, LRel.cons .sliceNil (LRel.nil r), hp1.symm, .sliceNil hu⟩
        · cases hn'
          by_cases hz : cap = 0
          · subst hz
            have hl0 : len = 0 := by omega
            subst hl0
            refine ⟨r, H, [.slice (some ⟨0, 0, some 0⟩) 0 0], Ren.le_refl r, Ext.refl H, hR, LRel.cons (.sliceZ a) (LRel.nil r), hp1.symm, ?_⟩
            exact .slice hu rfl rfl (by simp) (by simp [hel]) (by simp [hel]) (fun i x d hx => by simp at hx)
          · -- its block
            obtain ⟨hrl, hrest⟩ := hspare rfl
            have hel? : ∀ i, i < len → ∃ cs, w.cells? 0 (a.add (i * P.cellsOf e)) (P.cellsOf e) = some cs ∧ DataW.trod enc P w 0 (fun _ => true) true fuel e cs = elems[i]? := by
              intro i hi
              have h1 := hread i hi
              rw [List.getElem?_eq_getElem (by omega)] at h1 ⊢
              obtain ⟨cs, h2, h3⟩ := Option.bind_eq_some_iff.1 h1
              exact ⟨cs, h2, h3⟩
            have hblk : ∃ cs, w.cells? 0 a (P.cellsOf e) = some cs := by
              by_cases hl0 : len = 0
              · have h1 := hrest 0 (by omega)
                rw [List.getElem?_eq_getElem (by omega)] at h1
                obtain ⟨cs, h2, h3⟩ := Option.bind_eq_some_iff.1 h1
                exact ⟨cs, by simpa [hl0, Addr.add] using h2⟩
              · obtain ⟨cs, h2, _⟩ := hel? 0 (by omega)
                exact ⟨cs, by simpa [Addr.add] using h2⟩
            obtain ⟨cs0, hcs0⟩ := hblk
            obtain ⟨C, ce, fz, hC, hsp, hoff⟩ := block_of_cells hcs0 hpos
            have hcl := (World.cells?_some hcs0).2.1
            have haddr : ∀ k, (a.add k).block = a.block ∧ (a.add k).off = a.off + k := by
              intro k
              unfold Addr.add
              split
              · rename_i e0; subst e0; exact ⟨rfl, rfl⟩
              · exact ⟨rfl, rfl⟩
            have hcell : ∀ i, i < len → ∀ cs, w.cells? 0 (a.add (i * P.cellsOf e)) (P.cellsOf e) = some cs → cs.length = P.cellsOf e ∧ ∀ k, k < P.cellsOf e → C[a.off + i * P.cellsOf e + k]? = cs[k]? := by
              intro i hi cs hcs
              obtain ⟨C', e', fz', hC', _, ho⟩ := block_of_cells hcs hpos
              rw [(haddr _).1, hC] at hC'
              cases hC'
              rw [(haddr _).2] at ho
              exact ⟨(World.cells?_some hcs).2.1, ho⟩
            let css : List (List Value) := (List.range len).map fun i => (w.cells? 0 (a.add (i * P.cellsOf e)) (P.cellsOf e)).getD []
            have hcss : ∀ (i : Nat) cs, css[i]? = some cs → i < len ∧ w.cells? 0 (a.add (i * P.cellsOf e)) (P.cellsOf e) = some cs := by
              intro i cs hcs
              simp only [css, List.getElem?_map] at hcs
              obtain ⟨j, hj, rfl⟩ := Option.map_eq_some_iff.1 hcs
              have hi : i < len := by have := (List.getElem?_eq_some_iff.1 hj).1; simpa using this
              have hji : j = i := by simpa [hi] using hj.symm
              subst hji
              obtain ⟨cs', h2, _⟩ := hel? j hi
              exact ⟨hi, by rw [h2]; rfl⟩
            obtain ⟨r1, H1, acss, a1, a2, a3, a4, a5, a6⟩ := absorb_elems (absorb hb fuel) hp css elems (by simp [css, hel]) (fun i cs hcs => by
              obtain ⟨hi, hc⟩ := hcss i cs hcs
              obtain ⟨cs', h2, h3⟩ := hel? i hi
              rw [hc] at h2
              cases h2
              exact h3) r H hR
            have hal : acss.length = len := a4.trans hel
            have hes : ∀ x ∈ acss, x.length = P.cellsOf e := by
              intro x hx
              obtain ⟨i, hi, rfl⟩ := List.mem_iff_getElem.1 hx
              exact (a6 i _ _ (List.getElem?_eq_getElem hi) (List.getElem?_eq_getElem (by omega))).1
            have hfl : acss.flatten.length = len * P.cellsOf e := by rw [flatten_length acss hes, hal]
            have hcell2 : ∀ (i : Nat) v, acss.flatten[i]? = some v → ∃ v', C[a.off + i]? = some v' ∧ VRel r1 v v' := by
              intro i v hv
              obtain ⟨x, h1, h2⟩ := flatten_get hpos acss hes i v hv
              have hi : i / P.cellsOf e < len := by have := (List.getElem?_eq_some_iff.1 h1).1; omega
              obtain ⟨cs', h3, _⟩ := hel? _ hi
              have h4 : css[i / P.cellsOf e]? = some cs' := by simp [css, hi, h3]
              obtain ⟨y, h5, h6⟩ := (a5 _ _ _ h1 h4).get h2
              refine ⟨y, ?_, h6⟩
              rw [← h5, ← (hcell _ hi cs' h3).2 _ (Nat.mod_lt _ hpos)]
              congr 1
              have := Nat.div_add_mod i (P.cellsOf e)
              rw [Nat.mul_comm] at this
              omega
            have hsize : a.off + acss.flatten.length ≤ C.size := by
              have h0 : a.off < C.size := by
                have := hoff 0 hpos
                rw [List.getElem?_eq_getElem (by omega)] at this
                exact (Array.getElem?_eq_some_iff.1 this).1
              by_cases hl0 : acss.flatten.length = 0
              · omega
              · obtain ⟨v', h1, _⟩ := hcell2 (acss.flatten.length - 1) _ (List.getElem?_eq_getElem (by omega))
                have := (Array.getElem?_eq_some_iff.1 h1).1
                omega
            obtain ⟨hR2, hle⟩ := a3.seen hC (by rw [hb]; exact bound_of_get hC) a.off (P.cellsOf e) hsize hcell2
            have hbig : cap < BIG := by simp only [BIG_val, maxLen] at *; omega
            refine ⟨_, _, [.slice (some ⟨H1.next, 0, none⟩) len cap], Ren.le_trans a1 hle, a2.to_push a3.hwf _, hR2, ?_, hp1.symm, ?_⟩
            · refine LRel.cons ?_ (LRel.nil _)
              have ha : a = ⟨a.block, a.off, none⟩ := by cases a; simp_all
              rw [ha]
              exact .slice (Ren.add_self _ _ _) (.inl rfl) ⟨hlc, hcm, fun _ => rfl, fun hh => absurd hh (by omega)⟩
            · refine .slice (xs := acss) hu ?_ (by simpa [small] using hbig) (by simp) (by simp; omega) (by simp; omega) fun i x d hx hd => ?_
              · simp only [rdS, get_push_self, capA, if_pos hbig]
                rw [if_pos ⟨hlc, by omega⟩, List.drop_zero, ← hal, chunks_flatten acss hes]
              · rw [List.getElem?_map] at hd
                obtain ⟨y, hy, rfl⟩ := Option.map_eq_some_iff.1 hd
                exact (a6 i x y hx hy).2.ext (Ext.push a3.hwf _)
      · rename_i fs hu
        simp only [Bool.and_eq_true] at hp
        obtain ⟨xs, n', hn', rfl, hc, hl, hf⟩ := DataW.trod_struct hu h
        cases hn'
        obtain ⟨r2, H2, acs, b1, b2, b3, b4, b5, b6, b7⟩ := absorb_fields (absorb hb fuel) cs hc fs.toList 0 hp.1 hp.2 xs (by simpa using hl.symm) (fun i f hf' => hf i f (by simpa using hf')) r H hR
        refine ⟨r2, H2, acs, b1, b2, b3, by simpa using b6, by simpa using b5, ?_⟩
        refine .struct hu (by simpa using b5) (by simpa using hl) fun i f d hf' hd => ?_
        rw [List.getElem?_map] at hd
        obtain ⟨x, hx, rfl⟩ := Option.map_eq_some_iff.1 hd
        simpa using (b7 i f x (by simpa using hf') hx).2
      · cases hp
end
end Go.Abs

/-
  The frame of a row's proof: from a call's triple in our heap to what the row asks of the call.
-/
namespace Go.Abs
open Go Go.RowKit Go.ChangeShapes Go.ChangeAt Go.WideShapes
set_option linter.unusedVariables false
set_option linter.unusedSimpArgs false

variable {D : Type} {P : Program}

/-- What an argument of ours reads as. -/
def AV (P : Program) (H : Heap) (t : TypeId) (v : Value) (d : DataW D) : Prop :=
  match P.underlying t with
  | some (.struct _) => ∃ cs : List Value, v = .agg cs.toArray ∧ AR P H t cs d
  | _ => AR P H t [v] d
theorem AV.ext {H H' : Heap} (hx : Ext H H') {t : TypeId} {v : Value} {d : DataW D} (h : AV P H t v d) : AV P H' t v d := by
  unfold AV at h ⊢
  split at h
  · obtain ⟨cs, h1, h2⟩ := h; exact ⟨cs, h1, h2.ext hx⟩
  · exact h.ext hx

def AVs (P : Program) (H : Heap) : List TypeId → List Value → List (DataW D) → Prop
  | [], [], [] => True
  | t :: ts, v :: vs, d :: ds => AV P H t v d ∧ AVs P H ts vs ds
  | _, _, _ => False
theorem AVs.ext {H H' : Heap} (hx : Ext H H') : ∀ {ts : List TypeId} {vs : List Value} {ds : List (DataW D)}, AVs P H ts vs ds → AVs P H' ts vs ds
  | [], [], [], _ => trivial
  | t :: ts, v :: vs, d :: ds, h => ⟨h.1.ext hx, AVs.ext hx h.2⟩
  | [], [], _ :: _, h => h.elim
  | [], _ :: _, _, h => h.elim
  | _ :: _, [], _, h => h.elim
  | _ :: _, _ :: _, [], h => h.elim

section
variable {enc : TypeId × Value → D} {base : Nat} {w0 w : World}

theorem absorb_arg (hb : base = w.heap.size) {n : Nat} {t : TypeId} (hp : plainTy P n t = true) {rc : Reach} {b0 : Nat} {v : Value} {d : DataW D} {ps : List MemPlace} (hok : Value.okWide P w rc b0 t v) (h : DataW.Trod enc P w 0 (fun _ => true) true t v d ps)
    {r : Ren} {H : Heap} (hR : Rel base w0 r H w) : ∃ (r' : Ren) (H' : Heap) (av : Value), Ren.le r r' ∧ Ext H H' ∧ Rel base w0 r' H' w ∧ VRel r' av v ∧ AV P H' t av d := by
  obtain ⟨fuel, h⟩ := h
  obtain ⟨r1, H1, acs, a1, a2, a3, a4, a5, a6⟩ := absorb hb fuel n t _ _ hp h r H hR
  unfold Value.okWide at hok
  unfold AV
  split at hok
  · rename_i fs hu
    obtain ⟨cs, rfl, _, _⟩ := hok
    rw [hu]
    exact ⟨r1, H1, .agg acs.toArray, a1, a2, a3, by simpa using a4.agg, acs, rfl, a6⟩
  · rename_i m e hu
    exfalso
    cases n with
    | zero => cases hp
    | succ n => unfold plainTy at hp; simp only [hu] at hp; cases hp
  · rename_i h1 h2
    have hone : P.cellsOf t = 1 ∧ v.cells = #[v] := by
      cases n with
      | zero => cases hp
      | succ n =>
        unfold plainTy at hp
        split at hp
        · rename_i hu
          refine ⟨by simpa using hp, ?_⟩
          cases v <;> first | rfl | simp [Cell.okWide, Cell.ok, hu] at hok
        · rename_i k hu
          refine ⟨by simpa using hp, ?_⟩
          cases v <;> first | rfl | simp [Cell.okWide, Cell.ok, hu] at hok
        · rename_i hu
          refine ⟨by simpa using hp, ?_⟩
          cases v <;> first | rfl | simp [Cell.okWide, Cell.ok, hu] at hok
        · rename_i e hu
          refine ⟨by simp at hp; exact hp.1, ?_⟩
          cases v <;> first | rfl | simp [Cell.okWide, Cell.ok, hu] at hok
        · rename_i fs hu; exact absurd hu (h1 fs)
        · cases hp
    rw [hone.1] at a5
    match acs, a5 with
    | [ac], _ =>
      rw [hone.2] at a4
      have hv := a4.2 0 ac v rfl rfl
      refine ⟨r1, H1, ac, a1, a2, a3, hv, ?_⟩
      split
      · rename_i fs hu; exact absurd hu (h1 fs)
      · exact a6

theorem absorb_args (hb : base = w.heap.size) (n : Nat) : ∀ (ts : List TypeId) (vs : List Value) (ds : List (DataW D)) (ps : List MemPlace), ts.all (plainTy P n) = true →
    (∀ (j : Nat) t v, ts[j]? = some t → vs[j]? = some v → ∃ b0, Value.okWide P w .any b0 t v) → DataW.TrodAll enc P w 0 (fun _ => true) true ts vs ds ps →
    ∀ (r : Ren) (H : Heap), Rel base w0 r H w → ∃ (r' : Ren) (H' : Heap) (avs : List Value), Ren.le r r' ∧ Ext H H' ∧ Rel base w0 r' H' w ∧ LRel r' avs vs ∧ AVs P H' ts avs ds
  | [], [], [], ps, _, _, _, r, H, hR => ⟨r, H, [], Ren.le_refl r, Ext.refl H, hR, LRel.nil r, trivial⟩
  | t :: ts, v :: vs, d :: ds, ps, hp, hok, h, r, H, hR => by
    obtain ⟨p, q, h1, h2, rfl⟩ := h
    simp only [List.all_cons, Bool.and_eq_true] at hp
    obtain ⟨b0, hok0⟩ := hok 0 t v rfl rfl
    obtain ⟨r1, H1, av, a1, a2, a3, a4, a5⟩ := absorb_arg hb hp.1 hok0 h1 hR
    obtain ⟨r2, H2, avs, b1, b2, b3, b4, b5⟩ := absorb_args hb n ts vs ds q hp.2 (fun j t v ht hv => hok (j + 1) t v (by simpa using ht) (by simpa using hv)) h2 r1 H1 a3
    exact ⟨r2, H2, av :: avs, Ren.le_trans a1 b1, a2.trans b2, b3, LRel.cons (a4.mono b1) b4, a5.ext b2, b5⟩
  | [], [], _ :: _, _, _, _, h, _, _, _ => h.elim
  | [], _ :: _, _, _, _, _, h, _, _, _ => h.elim
  | _ :: _, [], _, _, _, _, h, _, _, _ => h.elim
  | _ :: _, _ :: _, [], _, _, _, h, _, _, _ => h.elim

theorem trodAll_below (hl : laidOutB P = true) {W W' : World} (hbel : Below W.heap.size W W') {sp : Nat → Bool} : ∀ {ts : List TypeId} {vs : List Value} {ds : List (DataW D)} {ps : List MemPlace}, ts.all (fun t => P.readableRec t && decide (t < P.types.size)) = true →
    DataW.TrodAll enc P W 0 (fun _ => true) true ts vs ds ps → (∀ x ∈ ps, x.block < W.heap.size) → (∀ p ∈ ps, sp p.block = true) → DataW.TrodAll enc P W' 0 sp true ts vs ds ps
  | [], [], [], ps, _, h, _, _ => h
  | t :: ts, v :: vs, d :: ds, ps, hr, h, hlt, hsp => by
    obtain ⟨p, q, h1, h2, rfl⟩ := h
    simp only [List.all_cons, Bool.and_eq_true, decide_eq_true_eq] at hr
    exact ⟨p, q, WideElems.Trod_stays hl hr.1.1 hr.1.2 h1 (fun x hx => hbel.same (hlt x (by simp [hx]))) (fun x hx => hsp x (by simp [hx])),
      trodAll_below hl hbel hr.2 h2 (fun x hx => hlt x (by simp [hx])) (fun x hx => hsp x (by simp [hx])), rfl⟩
  | [], [], _ :: _, _, _, h, _, _ => h.elim
  | [], _ :: _, _, _, _, h, _, _ => h.elim
  | _ :: _, [], _, _, _, h, _, _ => h.elim
  | _ :: _, _ :: _, [], _, _, h, _, _ => h.elim

/-- WHAT A LAW'S ROW ASKS OF THE CALL: the law, in our heap, returns true. -/
theorem law_calls {fn : Func} {f : FuncId} {s : ChangeSpec} {apart fresh handsOn : Bool} {W : World} {b0 : Nat} {args : Array Value} {ds gs : List (DataW D)} {before : List MemPlace} {tb : TypeId} (n : Nat)
    (hl : laidOutB P = true) (hbool : P.underlying tb = some .bool) (hres : fn.resultTypes = #[tb]) (hbod : bodied P f = true) (hvars : s.vars = [])
    (hr : fn.params.toList.all (fun t => P.readableRec t && decide (t < P.types.size)) = true) (hp : fn.params.toList.all (plainTy P n) = true)
    (hval : ∀ (j : Nat) t v, fn.params[j]? = some t → args[j]? = some v → Value.okWide P W .any b0 t v)
    (hW : DataW.Whole enc P fn.params.toList s.vars apart W args.toList ds gs before)
    (hs : s.fn D (ds ++ gs) = { results := [.lit (.bool true)], args := ds })
    (h : ∀ (H : Heap) (avs : List Value), H.Wf → AVs P H fn.params.toList avs ds → TriCall P f avs H fun res _ => res = .ret (.bool true)) :
    Calls P f args W fun e W' => ∃ v, e = .returned v ∧ s.post enc P fn apart fresh handsOn false W args v W' := by
  have hW' := hW
  obtain ⟨p, q, hA, hV, rfl, _, _⟩ := hW
  rw [hvars] at hV
  obtain ⟨rfl, rfl⟩ := trodVars_none hV
  obtain ⟨r1, H1, avs, _, _, hR, hL, hAV⟩ := absorb_args (enc := enc) (w0 := W) (base := W.heap.size) rfl n fn.params.toList args.toList ds p hp (fun j t v ht hv => ⟨b0, hval j t v (by simpa using ht) (by simpa using hv)⟩) hA Ren.none Heap.empty (Rel.empty W)
  refine ((h H1 avs hR.hwf hAV hbod W.heap.size W r1 W args hR hL).calls (FR_room P none)).mono ?_
  rintro e W' ⟨r2, res, H2, _, hR2, hC, rfl⟩
  obtain ⟨v, rfl, hv⟩ := hC
  cases hv
  have hlt := hW'.lt
  refine ⟨_, rfl, ds, [], p ++ [], [], p, [], hW', ?_, ?_, ?_, hR2.below.frame _, fun h => by cases h⟩
  · rw [hs, hres]
    exact trodAll_mk1 (shut_bool hbool _)
  · rw [hs]
    exact trodAll_below hl hR2.below hr hA (fun x hx => hlt x (by simp [hx])) (fun x hx => by simpa using hlt x (by simp [hx]))
  · rw [hs, hvars]
    exact rfl
end
end Go.Abs

/-
  append, on slices whose capacity is known or not; heaps in which all but a block stays.
-/
namespace Go.Abs
open Go Go.RowKit
set_option linter.unusedVariables false
set_option linter.unusedSimpArgs false

/-- A heap in which all that stood in another one but a block stands. -/
structure Kept (H H' : Heap) (x : Option Nat) : Prop where
  wf : H'.Wf
  le : H.next ≤ H'.next
  get : ∀ b, b < H.next → some b ≠ x → H'.get b = H.get b
theorem Kept.refl {H : Heap} (hw : H.Wf) (x : Option Nat) : Kept H H x := ⟨hw, Nat.le_refl _, fun _ _ _ => rfl⟩
theorem Kept.push {H H' : Heap} {x : Option Nat} (h : Kept H H' x) (o : AObj) : Kept H (H'.push o) x :=
  ⟨h.wf.push o, by have := h.le; simp; omega, fun b hb hx => by rw [get_push_ne (by have := h.le; omega)]; exact h.get b hb hx⟩
theorem Kept.set {H H' : Heap} {x : Option Nat} (h : Kept H H' x) {c : Nat} (hc : H.next ≤ c) (hc2 : c < H'.next) (o : AObj) : Kept H (H'.set c o) x :=
  ⟨h.wf.set hc2 o, h.le, fun b hb hx => by rw [get_set_ne (by omega)]; exact h.get b hb hx⟩
theorem Kept.kill {H H' : Heap} {x : Nat} (h : Kept H H' (some x)) (hx : x < H'.next) (o : AObj) : Kept H (H'.set x o) (some x) :=
  ⟨h.wf.set hx o, h.le, fun b hb hn => by rw [get_set_ne (fun e => hn (by rw [e]))]; exact h.get b hb hn⟩
theorem Kept.trans {A B C : Heap} {x : Option Nat} (h : Kept A B x) (k : Kept B C x) : Kept A C x :=
  ⟨k.wf, Nat.le_trans h.le k.le, fun b hb hn => (k.get b (Nat.lt_of_lt_of_le hb h.le) hn).trans (h.get b hb hn)⟩
theorem Kept.weak {H H' : Heap} (h : Kept H H' none) (x : Option Nat) : Kept H H' x := ⟨h.wf, h.le, fun b hb _ => h.get b hb (by simp)⟩
/-- What a block that is new at the start turns into counts for nothing. -/
theorem Kept.drop {A B C : Heap} {x : Option Nat} (h : Kept A B none) (k : Kept B C x) (hx : ∀ b, x = some b → A.next ≤ b) : Kept A C none :=
  ⟨k.wf, Nat.le_trans h.le k.le, fun b hb _ => (k.get b (Nat.lt_of_lt_of_le hb h.le) (fun e => by have := hx b e.symm; omega)).trans (h.get b hb (by simp))⟩
theorem Kept.ext {H H' : Heap} (h : Kept H H' none) (hw : H.Wf) : Ext H H' := fun b ob hb => by rw [h.get b (hw.lt hb) (by simp)]; exact hb
theorem Kept.of_get {H H' : Heap} {x : Option Nat} (h : Kept H H' x) (hw : H.Wf) {b : Nat} {ob : AObj} (hb : H.get b = some ob) (hx : some b ≠ x) : H'.get b = some ob := by
  rw [h.get b (hw.lt hb) hx]; exact hb

def blockOf : Value → Option Nat
  | .slice (some a) _ _ => some a.block
  | _ => none

theorem chunks_take {es : Nat} : ∀ (n : Nat) (cs : List Value), n * es ≤ cs.length → (chunks es n cs).flatten = cs.take (n * es)
  | 0, cs, _ => by simp [chunks]
  | n + 1, cs, h => by
    rw [Nat.succ_mul] at h
    simp only [chunks, List.flatten_cons]
    rw [chunks_take n (cs.drop es) (by rw [List.length_drop]; omega), Nat.succ_mul, Nat.add_comm, List.take_add]
theorem cellsA_rdS {H : Heap} {es : Nat} {v : Value} {xs : List (List Value)} (h : rdS H es v = some xs) : cellsA H es v = some xs.flatten ∧ lenA v = some xs.length := by
  refine ⟨?_, rdS_len h⟩
  unfold rdS at h
  split at h
  · cases h; rfl
  · rename_i b off n c
    split at h
    · rename_i own es' cs hg
      split at h
      · rename_i hc
        cases h
        simp only [cellsA, hg]
        rw [if_pos hc.2, chunks_take n _ (by rw [List.length_drop]; omega)]
      · cases h
    · cases h
  · cases h; rfl
  · cases h

section
variable {P : Program} {t e : TypeId} {i : TypeInfo} {z : Value} {zn : Nat}

/-- append onto a slice that is nil or of unknown capacity. -/
theorem app_big {H : Heap} {n : Nat} {v x : Value} {cs : List Value} {xs : List (List Value)} (he : elemA P t = some (e, i)) (hz : zeroA P e = some (z, zn)) (hby : i.bytes ≤ 65536) (hsz : 0 < i.size) (hzs : z.cells.size = i.size) (hw : H.Wf)
    (hv : (n = 0 ∧ v = .slice none 0 0 ∧ cs = []) ∨ ∃ b, v = .slice (some ⟨b, 0, none⟩) n BIG ∧ H.get b = some (.cells true i.size cs)) (hcl : cs.length = n * i.size)
    (hx : rdS H i.size x = some xs) (hn : n + xs.length ≤ 1073741824) (h1 : xs.flatten.all oneC = true) (hne : 0 < xs.length) :
    ∃ H', builtinA P .append #[t, t] [v, x] H = some (.val (.slice (some ⟨H.next, 0, none⟩) (n + xs.length) BIG), H') ∧ H'.get H.next = some (.cells true i.size (cs ++ xs.flatten)) ∧ Kept H H' (blockOf v) ∧ H.next < H'.next := by
  obtain ⟨hcx, hlx⟩ := cellsA_rdS hx
  have hne' : ¬ xs.length = 0 := by omega
  rcases hv with ⟨rfl, rfl, rfl⟩ | ⟨b, rfl, hb⟩
  · refine ⟨H.push (.cells true i.size xs.flatten), ?_, get_push_self _ _, (Kept.refl hw _).push _, by simp⟩
    have hc0 : cellsA H i.size (.slice none 0 0) = some [] := rfl
    have hl0 : lenA (.slice none 0 0) = some 0 := rfl
    simp only [builtinA, appendA, he, hz, hcx, hlx, hc0, hl0, if_true]
    rw [if_pos ⟨hby, hn, hsz, hzs, h1⟩, if_neg hne']
    simp
  · have hlt := hw.lt hb
    have hcb : cellsA H i.size (.slice (some ⟨b, 0, none⟩) n BIG) = some cs := by
      simp only [cellsA, hb]
      rw [if_pos (by omega), List.drop_zero, List.take_of_length_le (by omega)]
    have hlb : lenA (.slice (some ⟨b, 0, none⟩) n BIG) = some n := rfl
    refine ⟨(H.set b .dead).push (.cells true i.size (cs ++ xs.flatten)), ?_, get_push_self (H.set b .dead) _, ((Kept.refl hw (some b)).kill hlt _).push _, by simp⟩
    simp only [builtinA, appendA, he, hz, hcx, hlx, hcb, hlb, if_true]
    rw [if_pos ⟨hby, hn, hsz, hzs, h1⟩, if_neg hne', if_neg (Nat.lt_irrefl _)]
    simp only [hb, if_true]
    simp

/-- Nothing appended. -/
theorem app_none {H : Heap} {v x : Value} {xv xs : List (List Value)} (he : elemA P t = some (e, i)) (hz : zeroA P e = some (z, zn)) (hby : i.bytes ≤ 65536) (hsz : 0 < i.size) (hzs : z.cells.size = i.size)
    (hv : rdS H i.size v = some xv) (hvn : xv.length ≤ 1073741824) (hx : rdS H i.size x = some xs) (hne : xs.length = 0) :
    builtinA P .append #[t, t] [v, x] H = some (.val v, H) := by
  obtain ⟨hcv, hlv⟩ := cellsA_rdS hv
  obtain ⟨hcx, hlx⟩ := cellsA_rdS hx
  have hxs : xs = [] := List.eq_nil_of_length_eq_zero hne
  subst hxs
  simp only [builtinA, appendA, he, hz, hcx, hlx, hcv, hlv, if_true]
  rw [if_pos ⟨hby, by simp; omega, hsz, hzs, by rfl⟩]
  simp

/-- append onto a slice without room: a new row. -/
theorem app_full {H : Heap} {b n c : Nat} {x : Value} {xv xs : List (List Value)} (he : elemA P t = some (e, i)) (hz : zeroA P e = some (z, zn)) (hby : i.bytes ≤ 65536) (hsz : 0 < i.size) (hzs : z.cells.size = i.size) (hw : H.Wf)
    (hv : rdS H i.size (.slice (some ⟨b, 0, none⟩) n c) = some xv) (hc : c < BIG) (hcn : c < n + xs.length) (hx : rdS H i.size x = some xs) (hn : n + xs.length ≤ 1073741824) (h1 : xs.flatten.all oneC = true) (hne : 0 < xs.length) :
    builtinA P .append #[t, t] [.slice (some ⟨b, 0, none⟩) n c, x] H = some (.val (.slice (some ⟨H.next, 0, none⟩) (n + xs.length) BIG), H.push (.cells true i.size (xv.flatten ++ xs.flatten))) := by
  obtain ⟨hcv, hlv⟩ := cellsA_rdS hv
  obtain ⟨hcx, hlx⟩ := cellsA_rdS hx
  have hlv' : xv.length = n := by simpa [lenA] using hlv.symm
  subst hlv'
  simp only [builtinA, appendA, he, hz, hcx, hlx, hcv, hlv, if_true]
  rw [if_pos ⟨hby, hn, hsz, hzs, h1⟩, if_neg (by omega), if_pos hc, if_neg (by omega)]
  simp
end
end Go.Abs

/-
  The frame of a row's proof, where types may be recursive: a list of types, closed under parts, in the place of a depth.
-/
namespace Go.Abs
open Go Go.RowKit Go.ChangeShapes Go.ChangeAt Go.WideShapes
set_option linter.unusedVariables false
set_option linter.unusedSimpArgs false

variable {D : Type} {P : Program}

/-- A type that is served, if its parts are. -/
def okStep (P : Program) (p : TypeId → Bool) (t : TypeId) : Bool := match P.underlying t with
  | some .bool | some (.int _) | some .string => P.cellsOf t == 1
  | some (.slice e) => P.cellsOf t == 1 && (decide (0 < P.cellsOf e) && p e)
  | some (.struct fs) => tiles P (P.cellsOf t) fs.toList 0 && fs.toList.all fun f => p f.type
  | _ => false
def Closed (P : Program) (p : TypeId → Bool) : Prop := ∀ t, p t = true → okStep P p t = true
theorem closed_of {S : List TypeId} (h : (S.all fun t => okStep P (fun t => S.contains t) t) = true) : Closed P fun t => S.contains t := by
  intro t ht
  exact List.all_eq_true.1 h t (List.contains_iff_mem.1 ht)

section
variable {enc : TypeId × Value → D} {base : Nat} {w0 w : World} {p : TypeId → Bool}

def AbsorbsS (enc : TypeId × Value → D) (P : Program) (p : TypeId → Bool) (base : Nat) (w0 w : World) (fuel : Nat) : Prop :=
  ∀ (t : TypeId) (cs : List Value) (x : DataW D × List MemPlace), p t = true → DataW.trod enc P w 0 (fun _ => true) true fuel t cs = some x →
    ∀ (r : Ren) (H : Heap), Rel base w0 r H w → ∃ (r' : Ren) (H' : Heap) (acs : List Value), Ren.le r r' ∧ Ext H H' ∧ Rel base w0 r' H' w ∧ LRel r' acs cs ∧ acs.length = P.cellsOf t ∧ AR P H' t acs x.1

theorem absorbS_elems {fuel : Nat} (ih : AbsorbsS enc P p base w0 w fuel) {e : TypeId} (hp : p e = true) (css : List (List Value)) (xs : List (DataW D × List MemPlace)) (hl : css.length = xs.length)
    (hx : ∀ (i : Nat) cs, css[i]? = some cs → DataW.trod enc P w 0 (fun _ => true) true fuel e cs = xs[i]?) (r : Ren) (H : Heap) (hR : Rel base w0 r H w) :
    ∃ (r' : Ren) (H' : Heap) (acss : List (List Value)), Ren.le r r' ∧ Ext H H' ∧ Rel base w0 r' H' w ∧ acss.length = xs.length ∧
      (∀ (i : Nat) acs cs, acss[i]? = some acs → css[i]? = some cs → LRel r' acs cs) ∧ (∀ (i : Nat) acs x, acss[i]? = some acs → xs[i]? = some x → acs.length = P.cellsOf e ∧ AR P H' e acs x.1) := by
  induction css generalizing xs r H with
  | nil =>
    cases xs with
    | cons x xs => cases hl
    | nil => exact ⟨r, H, [], Ren.le_refl r, Ext.refl H, hR, rfl, (fun i a b h => by simp at h), fun i a b h => by simp at h⟩
  | cons cs css ihl =>
    cases xs with
    | nil => cases hl
    | cons x xs =>
      obtain ⟨r1, H1, acs, a1, a2, a3, a4, a5, a6⟩ := ih e cs x hp (by simpa using hx 0 cs rfl) r H hR
      obtain ⟨r2, H2, acss, b1, b2, b3, b4, b5, b6⟩ := ihl xs (by simpa using hl) (fun i c hc => by simpa using hx (i + 1) c (by simpa using hc)) r1 H1 a3
      refine ⟨r2, H2, acs :: acss, Ren.le_trans a1 b1, a2.trans b2, b3, by simp [b4], fun i a c ha hc => ?_, fun i a y ha hy => ?_⟩
      · cases i with
        | zero => simp at ha hc; subst ha; subst hc; exact a4.mono b1
        | succ i => simp at ha hc; exact b5 i a c ha hc
      · cases i with
        | zero => simp at ha hy; subst ha; subst hy; exact ⟨a5, a6.ext b2⟩
        | succ i => simp at ha hy; exact b6 i a y ha hy

theorem absorbS_fields {fuel : Nat} (ih : AbsorbsS enc P p base w0 w fuel) {total : Nat} (cs : List Value) (hlen : cs.length = total) (fs : List Field) (off : Nat) (ht : tiles P total fs off = true) (hp : fs.all (fun f => p f.type) = true) (xs : List (DataW D × List MemPlace)) (hl : fs.length = xs.length)
    (hx : ∀ (i : Nat) f, fs[i]? = some f → DataW.trod enc P w 0 (fun _ => true) true fuel f.type ((cs.drop f.offset).take (P.cellsOf f.type)) = xs[i]?) (r : Ren) (H : Heap) (hR : Rel base w0 r H w) :
    ∃ (r' : Ren) (H' : Heap) (acs : List Value), Ren.le r r' ∧ Ext H H' ∧ Rel base w0 r' H' w ∧ off ≤ total ∧ acs.length = total - off ∧ LRel r' acs (cs.drop off) ∧
      (∀ (i : Nat) f x, fs[i]? = some f → xs[i]? = some x → off ≤ f.offset ∧ AR P H' f.type ((acs.drop (f.offset - off)).take (P.cellsOf f.type)) x.1) := by
  induction fs generalizing off xs r H with
  | nil =>
    cases xs with
    | cons x xs => cases hl
    | nil =>
      simp only [tiles, beq_iff_eq] at ht
      refine ⟨r, H, [], Ren.le_refl r, Ext.refl H, hR, by omega, by simp; omega, ?_, fun i a b h => by simp at h⟩
      rw [List.drop_eq_nil_of_le (by omega)]
      exact LRel.nil r
  | cons f fs ihl =>
    cases xs with
    | nil => cases hl
    | cons x xs =>
      simp only [tiles, Bool.and_eq_true, beq_iff_eq] at ht
      obtain ⟨hoff, ht⟩ := ht
      simp only [List.all_cons, Bool.and_eq_true] at hp
      obtain ⟨r1, H1, acs, a1, a2, a3, a4, a5, a6⟩ := ih f.type _ x hp.1 (by simpa using hx 0 f rfl) r H hR
      obtain ⟨r2, H2, acs2, b1, b2, b3, b4, b5, b6, b7⟩ := ihl (off + P.cellsOf f.type) ht hp.2 xs (by simpa using hl) (fun i g hg => by simpa using hx (i + 1) g (by simpa using hg)) r1 H1 a3
      refine ⟨r2, H2, acs ++ acs2, Ren.le_trans a1 b1, a2.trans b2, b3, by omega, by simp [a5, b5]; omega, ?_, fun i g y hg hy => ?_⟩
      · have := (a4.mono b1).append b6
        rw [hoff, ← List.drop_drop, List.take_append_drop] at this
        exact this
      · cases i with
        | zero =>
          simp at hg hy
          subst hg; subst hy
          refine ⟨by omega, ?_⟩
          rw [hoff, Nat.sub_self, List.drop_zero, List.take_append_of_le_length (by omega), List.take_of_length_le (by omega)]
          exact a6.ext b2
        | succ i =>
          simp at hg hy
          obtain ⟨c1, c2⟩ := b7 i g y hg hy
          refine ⟨by omega, ?_⟩
          rw [List.drop_append, List.drop_eq_nil_of_le (by omega), List.nil_append, show g.offset - off - acs.length = g.offset - (off + P.cellsOf f.type) by omega]
          exact c2

theorem absorbS (hCl : Closed P p) (hb : base = w.heap.size) : ∀ fuel, AbsorbsS enc P p base w0 w fuel
  | 0 => fun t cs x _ h => by simp [DataW.trod] at h
  | fuel + 1 => by
    intro t cs x hp h r H hR
    · have hp := hCl t hp
      unfold okStep at hp
      split at hp
      · rename_i hu
        obtain ⟨b, rfl, rfl⟩ := DataW.trod_bool hu h
        exact ⟨r, H, [.bool b], Ren.le_refl r, Ext.refl H, hR, LRel.cons (.bool b) (LRel.nil r), (beq_iff_eq.1 hp).symm, .bool hu⟩
      · rename_i k hu
        obtain ⟨m, rfl, rfl, hw⟩ := DataW.trod_int hu h
        exact ⟨r, H, [.int k m], Ren.le_refl r, Ext.refl H, hR, LRel.cons (.int k m) (LRel.nil r), (beq_iff_eq.1 hp).symm, .int hu hw⟩
      · rename_i hu
        obtain ⟨s, rfl, rfl, hw⟩ := DataW.trod_string hu h
        exact ⟨r, H, [.string s], Ren.le_refl r, Ext.refl H, hR, LRel.cons (.string s) (LRel.nil r), (beq_iff_eq.1 hp).symm, .string hu hw⟩
      · rename_i e hu
        simp only [Bool.and_eq_true, decide_eq_true_eq, beq_iff_eq] at hp
        obtain ⟨hp1, hpos, hp⟩ := hp
        rcases DataW.trod_slice hu h with ⟨rfl, rfl⟩ | ⟨a, len, cap, elems, rest, n', hn', rfl, rfl, _, hlc, hcm, hel, hread, hspare, _⟩
        · exact ⟨r, H, [.slice none 0 0], Ren.le_refl r, Ext.refl H, hR, LRel.cons .sliceNil (LRel.nil r), hp1.symm, .sliceNil hu⟩
        · cases hn'
          by_cases hz : cap = 0
          · subst hz
            have hl0 : len = 0 := by omega
            subst hl0
            refine ⟨r, H, [.slice (some ⟨0, 0, some 0⟩) 0 0], Ren.le_refl r, Ext.refl H, hR, LRel.cons (.sliceZ a) (LRel.nil r), hp1.symm, ?_⟩
            exact .slice hu rfl rfl (by simp) (by simp [hel]) (by simp [hel]) (fun i x d hx => by simp at hx)
          · -- its block
            obtain ⟨hrl, hrest⟩ := hspare rfl
            have hel? : ∀ i, i < len → ∃ cs, w.cells? 0 (a.add (i * P.cellsOf e)) (P.cellsOf e) = some cs ∧ DataW.trod enc P w 0 (fun _ => true) true fuel e cs = elems[i]? := by
              intro i hi
              have h1 := hread i hi
              rw [List.getElem?_eq_getElem (by omega)] at h1 ⊢
              obtain ⟨cs, h2, h3⟩ := Option.bind_eq_some_iff.1 h1
              exact ⟨cs, h2, h3⟩
            have hblk : ∃ cs, w.cells? 0 a (P.cellsOf e) = some cs := by
              by_cases hl0 : len = 0
              · have h1 := hrest 0 (by omega)
                rw [List.getElem?_eq_getElem (by omega)] at h1
                obtain ⟨cs, h2, h3⟩ := Option.bind_eq_some_iff.1 h1
                exact ⟨cs, by simpa [hl0, Addr.add] using h2⟩
              · obtain ⟨cs, h2, _⟩ := hel? 0 (by omega)
                exact ⟨cs, by simpa [Addr.add] using h2⟩
            obtain ⟨cs0, hcs0⟩ := hblk
            obtain ⟨C, ce, fz, hC, hsp, hoff⟩ := block_of_cells hcs0 hpos
            have hcl := (World.cells?_some hcs0).2.1
            have haddr : ∀ k, (a.add k).block = a.block ∧ (a.add k).off = a.off + k := by
              intro k
              unfold Addr.add
              split
              · rename_i e0; subst e0; exact ⟨rfl, rfl⟩
              · exact ⟨rfl, rfl⟩
            have hcell : ∀ i, i < len → ∀ cs, w.cells? 0 (a.add (i * P.cellsOf e)) (P.cellsOf e) = some cs → cs.length = P.cellsOf e ∧ ∀ k, k < P.cellsOf e → C[a.off + i * P.cellsOf e + k]? = cs[k]? := by
              intro i hi cs hcs
              obtain ⟨C', e', fz', hC', _, ho⟩ := block_of_cells hcs hpos
              rw [(haddr _).1, hC] at hC'
              cases hC'
              rw [(haddr _).2] at ho
              exact ⟨(World.cells?_some hcs).2.1, ho⟩
            let css : List (List Value) := (List.range len).map fun i => (w.cells? 0 (a.add (i * P.cellsOf e)) (P.cellsOf e)).getD []
            have hcss : ∀ (i : Nat) cs, css[i]? = some cs → i < len ∧ w.cells? 0 (a.add (i * P.cellsOf e)) (P.cellsOf e) = some cs := by
              intro i cs hcs
              simp only [css, List.getElem?_map] at hcs
              obtain ⟨j, hj, rfl⟩ := Option.map_eq_some_iff.1 hcs
              have hi : i < len := by have := (List.getElem?_eq_some_iff.1 hj).1; simpa using this
              have hji : j = i := by simpa [hi] using hj.symm
              subst hji
              obtain ⟨cs', h2, _⟩ := hel? j hi
              exact ⟨hi, by rw [h2]; rfl⟩
            obtain ⟨r1, H1, acss, a1, a2, a3, a4, a5, a6⟩ := absorbS_elems (absorbS hCl hb fuel) hp css elems (by simp [css, hel]) (fun i cs hcs => by
              obtain ⟨hi, hc⟩ := hcss i cs hcs
              obtain ⟨cs', h2, h3⟩ := hel? i hi
              rw [hc] at h2
              cases h2
              exact h3) r H hR
            have hal : acss.length = len := a4.trans hel
            have hes : ∀ x ∈ acss, x.length = P.cellsOf e := by
              intro x hx
              obtain ⟨i, hi, rfl⟩ := List.mem_iff_getElem.1 hx
              exact (a6 i _ _ (List.getElem?_eq_getElem hi) (List.getElem?_eq_getElem (by omega))).1
            have hfl : acss.flatten.length = len * P.cellsOf e := by rw [flatten_length acss hes, hal]
            have hcell2 : ∀ (i : Nat) v, acss.flatten[i]? = some v → ∃ v', C[a.off + i]? = some v' ∧ VRel r1 v v' := by
              intro i v hv
              obtain ⟨x, h1, h2⟩ := flatten_get hpos acss hes i v hv
              have hi : i / P.cellsOf e < len := by have := (List.getElem?_eq_some_iff.1 h1).1; omega
              obtain ⟨cs', h3, _⟩ := hel? _ hi
              have h4 : css[i / P.cellsOf e]? = some cs' := by simp [css, hi, h3]
              obtain ⟨y, h5, h6⟩ := (a5 _ _ _ h1 h4).get h2
              refine ⟨y, ?_, h6⟩
              rw [← h5, ← (hcell _ hi cs' h3).2 _ (Nat.mod_lt _ hpos)]
              congr 1
              have := Nat.div_add_mod i (P.cellsOf e)
              rw [Nat.mul_comm] at this
              omega
            have hsize : a.off + acss.flatten.length ≤ C.size := by
              have h0 : a.off < C.size := by
                have := hoff 0 hpos
                rw [List.getElem?_eq_getElem (by omega)] at this
                exact (Array.getElem?_eq_some_iff.1 this).1
              by_cases hl0 : acss.flatten.length = 0
              · omega
              · obtain ⟨v', h1, _⟩ := hcell2 (acss.flatten.length - 1) _ (List.getElem?_eq_getElem (by omega))
                have := (Array.getElem?_eq_some_iff.1 h1).1
                omega
            obtain ⟨hR2, hle⟩ := a3.seen hC (by rw [hb]; exact bound_of_get hC) a.off (P.cellsOf e) hsize hcell2
            have hbig : cap < BIG := by simp only [BIG_val, maxLen] at *; omega
            refine ⟨_, _, [.slice (some ⟨H1.next, 0, none⟩) len cap], Ren.le_trans a1 hle, a2.to_push a3.hwf _, hR2, ?_, hp1.symm, ?_⟩
            · refine LRel.cons ?_ (LRel.nil _)
              have ha : a = ⟨a.block, a.off, none⟩ := by cases a; simp_all
              rw [ha]
              exact .slice (Ren.add_self _ _ _) (.inl rfl) ⟨hlc, hcm, fun _ => rfl, fun hh => absurd hh (by omega)⟩
            · refine .slice (xs := acss) hu ?_ (by simpa [small] using hbig) (by simp) (by simp; omega) (by simp; omega) fun i x d hx hd => ?_
              · simp only [rdS, get_push_self, capA, if_pos hbig]
                rw [if_pos ⟨hlc, by omega⟩, List.drop_zero, ← hal, chunks_flatten acss hes]
              · rw [List.getElem?_map] at hd
                obtain ⟨y, hy, rfl⟩ := Option.map_eq_some_iff.1 hd
                exact (a6 i x y hx hy).2.ext (Ext.push a3.hwf _)
      · rename_i fs hu
        simp only [Bool.and_eq_true] at hp
        obtain ⟨xs, n', hn', rfl, hc, hl, hf⟩ := DataW.trod_struct hu h
        cases hn'
        obtain ⟨r2, H2, acs, b1, b2, b3, b4, b5, b6, b7⟩ := absorbS_fields (absorbS hCl hb fuel) cs hc fs.toList 0 hp.1 hp.2 xs (by simpa using hl.symm) (fun i f hf' => hf i f (by simpa using hf')) r H hR
        refine ⟨r2, H2, acs, b1, b2, b3, by simpa using b6, by simpa using b5, ?_⟩
        refine .struct hu (by simpa using b5) (by simpa using hl) fun i f d hf' hd => ?_
        rw [List.getElem?_map] at hd
        obtain ⟨x, hx, rfl⟩ := Option.map_eq_some_iff.1 hd
        simpa using (b7 i f x (by simpa using hf') hx).2
      · cases hp
theorem absorbS_arg (hCl : Closed P p) (hb : base = w.heap.size) {t : TypeId} (hp : p t = true) {rc : Reach} {b0 : Nat} {v : Value} {d : DataW D} {ps : List MemPlace} (hok : Value.okWide P w rc b0 t v) (h : DataW.Trod enc P w 0 (fun _ => true) true t v d ps)
    {r : Ren} {H : Heap} (hR : Rel base w0 r H w) : ∃ (r' : Ren) (H' : Heap) (av : Value), Ren.le r r' ∧ Ext H H' ∧ Rel base w0 r' H' w ∧ VRel r' av v ∧ AV P H' t av d := by
  obtain ⟨fuel, h⟩ := h
  obtain ⟨r1, H1, acs, a1, a2, a3, a4, a5, a6⟩ := absorbS hCl hb fuel t _ _ hp h r H hR
  unfold Value.okWide at hok
  unfold AV
  split at hok
  · rename_i fs hu
    obtain ⟨cs, rfl, _, _⟩ := hok
    rw [hu]
    exact ⟨r1, H1, .agg acs.toArray, a1, a2, a3, by simpa using a4.agg, acs, rfl, a6⟩
  · rename_i m e hu
    exfalso
    have hp := hCl t hp
    unfold okStep at hp; simp only [hu] at hp; cases hp
  · rename_i h1 h2
    have hone : P.cellsOf t = 1 ∧ v.cells = #[v] := by
      · have hp := hCl t hp
        unfold okStep at hp
        split at hp
        · rename_i hu
          refine ⟨by simpa using hp, ?_⟩
          cases v <;> first | rfl | simp [Cell.okWide, Cell.ok, hu] at hok
        · rename_i k hu
          refine ⟨by simpa using hp, ?_⟩
          cases v <;> first | rfl | simp [Cell.okWide, Cell.ok, hu] at hok
        · rename_i hu
          refine ⟨by simpa using hp, ?_⟩
          cases v <;> first | rfl | simp [Cell.okWide, Cell.ok, hu] at hok
        · rename_i e hu
          refine ⟨by simp at hp; exact hp.1, ?_⟩
          cases v <;> first | rfl | simp [Cell.okWide, Cell.ok, hu] at hok
        · rename_i fs hu; exact absurd hu (h1 fs)
        · cases hp
    rw [hone.1] at a5
    match acs, a5 with
    | [ac], _ =>
      rw [hone.2] at a4
      have hv := a4.2 0 ac v rfl rfl
      refine ⟨r1, H1, ac, a1, a2, a3, hv, ?_⟩
      split
      · rename_i fs hu; exact absurd hu (h1 fs)
      · exact a6

theorem absorbS_args (hCl : Closed P p) (hb : base = w.heap.size) : ∀ (ts : List TypeId) (vs : List Value) (ds : List (DataW D)) (ps : List MemPlace), ts.all p = true →
    (∀ (j : Nat) t v, ts[j]? = some t → vs[j]? = some v → ∃ b0, Value.okWide P w .any b0 t v) → DataW.TrodAll enc P w 0 (fun _ => true) true ts vs ds ps →
    ∀ (r : Ren) (H : Heap), Rel base w0 r H w → ∃ (r' : Ren) (H' : Heap) (avs : List Value), Ren.le r r' ∧ Ext H H' ∧ Rel base w0 r' H' w ∧ LRel r' avs vs ∧ AVs P H' ts avs ds
  | [], [], [], ps, _, _, _, r, H, hR => ⟨r, H, [], Ren.le_refl r, Ext.refl H, hR, LRel.nil r, trivial⟩
  | t :: ts, v :: vs, d :: ds, ps, hp, hok, h, r, H, hR => by
    obtain ⟨p0, q, h1, h2, rfl⟩ := h
    simp only [List.all_cons, Bool.and_eq_true] at hp
    obtain ⟨b0, hok0⟩ := hok 0 t v rfl rfl
    obtain ⟨r1, H1, av, a1, a2, a3, a4, a5⟩ := absorbS_arg hCl hb hp.1 hok0 h1 hR
    obtain ⟨r2, H2, avs, b1, b2, b3, b4, b5⟩ := absorbS_args hCl hb ts vs ds q hp.2 (fun j t v ht hv => hok (j + 1) t v (by simpa using ht) (by simpa using hv)) h2 r1 H1 a3
    exact ⟨r2, H2, av :: avs, Ren.le_trans a1 b1, a2.trans b2, b3, LRel.cons (a4.mono b1) b4, a5.ext b2, b5⟩
  | [], [], _ :: _, _, _, _, h, _, _, _ => h.elim
  | [], _ :: _, _, _, _, _, h, _, _, _ => h.elim
  | _ :: _, [], _, _, _, _, h, _, _, _ => h.elim
  | _ :: _, _ :: _, [], _, _, _, h, _, _, _ => h.elim

/-- WHAT A LAW'S ROW ASKS OF THE CALL: the law, in our heap, returns true. -/
theorem law_callsS {fn : Func} {f : FuncId} {s : ChangeSpec} {apart fresh handsOn : Bool} {W : World} {b0 : Nat} {args : Array Value} {ds gs : List (DataW D)} {before : List MemPlace} {tb : TypeId} (hCl : Closed P p)
    (hl : laidOutB P = true) (hbool : P.underlying tb = some .bool) (hres : fn.resultTypes = #[tb]) (hbod : bodied P f = true) (hvars : s.vars = [])
    (hr : fn.params.toList.all (fun t => P.readableRec t && decide (t < P.types.size)) = true) (hp : fn.params.toList.all p = true)
    (hval : ∀ (j : Nat) t v, fn.params[j]? = some t → args[j]? = some v → Value.okWide P W .any b0 t v)
    (hW : DataW.Whole enc P fn.params.toList s.vars apart W args.toList ds gs before)
    (hs : s.fn D (ds ++ gs) = { results := [.lit (.bool true)], args := ds })
    (h : ∀ (H : Heap) (avs : List Value), H.Wf → AVs P H fn.params.toList avs ds → TriCall P f avs H fun res _ => res = .ret (.bool true)) :
    Calls P f args W fun e W' => ∃ v, e = .returned v ∧ s.post enc P fn apart fresh handsOn false W args v W' := by
  have hW' := hW
  obtain ⟨p0, q, hA, hV, rfl, _, _⟩ := hW
  rw [hvars] at hV
  obtain ⟨rfl, rfl⟩ := trodVars_none hV
  obtain ⟨r1, H1, avs, _, _, hR, hL, hAV⟩ := absorbS_args (enc := enc) (w0 := W) (base := W.heap.size) hCl rfl fn.params.toList args.toList ds p0 hp (fun j t v ht hv => ⟨b0, hval j t v (by simpa using ht) (by simpa using hv)⟩) hA Ren.none Heap.empty (Rel.empty W)
  refine ((h H1 avs hR.hwf hAV hbod W.heap.size W r1 W args hR hL).calls (FR_room P none)).mono ?_
  rintro e W' ⟨r2, res, H2, _, hR2, hC, rfl⟩
  obtain ⟨v, rfl, hv⟩ := hC
  cases hv
  have hlt := hW'.lt
  refine ⟨_, rfl, ds, [], p0 ++ [], [], p0, [], hW', ?_, ?_, ?_, hR2.below.frame _, fun h => by cases h⟩
  · rw [hs, hres]
    exact trodAll_mk1 (shut_bool hbool _)
  · rw [hs]
    exact trodAll_below hl hR2.below hr hA (fun x hx => hlt x (by simp [hx])) (fun x hx => by simpa using hlt x (by simp [hx]))
  · rw [hs, hvars]
    exact rfl
end
end Go.Abs

/-
  Lemmas that runs of functions use: rows of cells, ranges, rows that grow.
-/
namespace Go.Abs
noncomputable section
open Go Go.RowKit
set_option linter.unusedVariables false
set_option linter.unusedSimpArgs false
variable {P : Program}

theorem noCall_ok : CallOk P (fun _ _ => none) := fun _ _ _ _ h => by cases h
theorem rdInts_ext {H H' : Heap} (hx : Ext H H') {k : IntKind} {v : Value} {l : List Int} (h : rdInts H k v = some l) : rdInts H' k v = some l :=
  rdInts_of (rdS_ext hx (rdInts_rd h))
theorem wrapI {n : Int} (h0 : -9223372036854775808 ≤ n) (h1 : n ≤ 9223372036854775807) : IntKind.i64.wrap n = n := by rw [IntKind.wrap_i64]; omega
theorem beqF {a b : Int} (h : a ≠ b) : (a == b) = false := by simpa using h
theorem beqD (a b : Int) : (a == b) = decide (a = b) := by by_cases h : a = b <;> simp [h]
theorem rd_of_cells {H : Heap} {b es : Nat} {xs : List (List Value)} (h : H.get b = some (.cells true es xs.flatten)) (hx : ∀ x ∈ xs, x.length = es) : rdS H es (.slice (some ⟨b, 0, none⟩) xs.length BIG) = some xs := by
  have hcap : capA xs.length BIG = xs.length := by unfold capA; rw [if_neg (Nat.lt_irrefl _)]
  simp only [rdS, h]
  rw [if_pos ⟨by rw [hcap]; exact Nat.le_refl _, by rw [flatten_length xs hx]; omega⟩, List.drop_zero, Go.Abs.chunks_flatten xs hx]
theorem rdS_form {H : Heap} {es : Nat} {v : Value} {xs : List (List Value)} (h : rdS H es v = some xs) : (v = .slice none 0 0 ∧ xs = []) ∨ ∃ a n c, v = .slice (some a) n c := by
  unfold rdS at h
  split at h
  · cases h; exact .inl ⟨rfl, rfl⟩
  · exact .inr ⟨_, _, _, rfl⟩
  · exact .inr ⟨_, _, _, rfl⟩
  · cases h
theorem flatten_put {es : Nat} : ∀ (xs : List (List Value)) (p : Nat) (y : List Value), (∀ x ∈ xs, x.length = es) → y.length = es → p < xs.length → putL xs.flatten (p * es) y = (xs.set p y).flatten
  | [], p, y, _, _, h => by simp at h
  | x :: xs, 0, y, hx, hy, _ => by
    have := hx x (by simp)
    simp only [putL, Nat.zero_mul, List.take_zero, List.nil_append, Nat.zero_add, List.flatten_cons, List.set_cons_zero, hy]
    rw [List.drop_append_of_le_length (by omega), List.drop_eq_nil_of_le (by omega), List.nil_append]
  | x :: xs, p + 1, y, hx, hy, h => by
    have hl := hx x (by simp)
    have ih := flatten_put xs p y (fun z hz => hx z (by simp [hz])) hy (by simp at h; omega)
    simp only [List.set_cons_succ, List.flatten_cons]
    rw [← ih]
    simp only [putL, Nat.succ_mul]
    rw [List.take_append, List.take_of_length_le (by omega), show p * es + es - x.length = p * es by omega, List.drop_append, List.drop_eq_nil_of_le (by omega), List.nil_append, show p * es + es + y.length - x.length = p * es + y.length by omega]
    simp
theorem evCode_range {call : CallF} {lf nt : Nat} {env : Env} {ds : List ADef} {H : Heap} {f : Operand} {ps : Array Tmp} {a b : Code} {g : FuncId} {first captured : Array Value} (h : evA env f = some (.func (.func g) first captured)) (hb : bodied P g = true) :
    evCode P call lf nt none (.rangeFunc f ps a b) env ds H = rangeEnd (H.next + 1) env (.mark H.next :: ds) (call (.fn g (first.toList ++ [.func (.yield (H.next + 1)) #[] #[]] ++ captured.toList)) ((H.push .defs).push (theLoop P nt env ps a b))) := by
  simp only [evCode, h, hb]

/-- What is asked of a slice that is cut: its room is known, or it is ours. -/
def sliceOk (H : Heap) (es : Nat) (v : Value) : Prop := match v with
  | .slice (some a) _ c => c < BIG ∨ ∃ own cs, H.get a.block = some (.cells own es cs)
  | _ => True
theorem sliceOk.ext {H H' : Heap} (hx : Ext H H') {es : Nat} {v : Value} (h : sliceOk H es v) : sliceOk H' es v := by
  unfold sliceOk at h ⊢
  split at h
  · rcases h with h | ⟨own, cs, h⟩
    · exact .inl h
    · exact .inr ⟨own, cs, hx _ _ h⟩
  · trivial
theorem chunks_pre {es : Nat} : ∀ (n m : Nat) (cs : List Value), n ≤ m → chunks es n cs = (chunks es m cs).take n
  | 0, m, cs, _ => by simp [chunks]
  | n + 1, 0, cs, h => by omega
  | n + 1, m + 1, cs, h => by simp only [chunks, List.take_succ_cons]; rw [chunks_pre n m _ (by omega)]
/-- v[:n]. -/
theorem rdS_upto {H : Heap} {es : Nat} {v : Value} {xs : List (List Value)} (h : rdS H es v = some xs) (ho : sliceOk H es v) {t e : TypeId} {i : TypeInfo} (he : elemA P t = some (e, i)) (hs : i.size = es) {n : Nat} (hn : n ≤ xs.length) :
    ∃ v', sliceA P t v none (some (n : Int)) none H = some v' ∧ rdS H es v' = some (xs.take n) ∧ sliceOk H es v' := by
  have h' := h
  unfold rdS at h
  split at h
  · cases h
    have hn0 : n = 0 := by simpa using hn
    subst hn0
    exact ⟨.slice none 0 0, by simp [sliceA, he], rfl, trivial⟩
  · rename_i b off m c
    split at h
    · rename_i own es' cs hg
      split at h
      · rename_i hc
        cases h
        rw [chunks_length] at hn
        have hmul : n * es ≤ m * es := Nat.mul_le_mul_right _ hn
        have hcond : 0 ≤ (none : Option Int).getD 0 ∧ (none : Option Int).getD 0 ≤ (some (n : Int)).getD m ∧ (some (n : Int)).getD m ≤ (capA m c : Nat) := ⟨by simp, by simp, by simp only [Option.getD_some]; omega⟩
        by_cases hcb : c < BIG
        · refine ⟨.slice (some ⟨b, off, none⟩) n c, ?_, ?_, .inl hcb⟩
          · simp only [sliceA, he]
            rw [if_pos hcond, if_pos hcb]
            simp
          · have hcap : capA n c = c := by unfold capA; rw [if_pos hcb]
            have hcap2 : capA m c = c := by unfold capA; rw [if_pos hcb]
            rw [hcap2] at hc
            simp only [rdS, hg]
            rw [if_pos ⟨by rw [hcap]; omega, by omega⟩, chunks_pre n m _ hn]
        · rcases ho with ho | ⟨own2, cs2, ho⟩
          · exact absurd ho hcb
          · have hg2 : H.get b = some (.cells own2 es cs2) := ho
            refine ⟨.slice (some ⟨b, off, none⟩) n BIG, ?_, ?_, .inr ⟨own2, cs2, hg2⟩⟩
            · simp only [sliceA, he]
              rw [if_pos hcond, if_neg hcb]
              simp only [hg2, hs, if_true]
              simp
            · have hcap : capA n BIG = n := by unfold capA; rw [if_neg (Nat.lt_irrefl _)]
              simp only [rdS, hg]
              rw [if_pos ⟨by rw [hcap]; exact Nat.le_refl _, by omega⟩, chunks_pre n m _ hn]
      · cases h
    · cases h
  · cases h
    have hn0 : n = 0 := by simpa using hn
    subst hn0
    refine ⟨.slice (some ⟨0, 0, some 0⟩) 0 0, ?_, rfl, .inl (by rw [BIG_val]; omega)⟩
    simp only [sliceA, he, Option.getD_none, Option.getD_some]
    rw [if_pos ⟨by omega, by omega, by simp⟩, if_pos (by rw [BIG_val]; omega)]
    simp
  · cases h
/-- v[n:], for any n. -/
theorem rdS_off {H : Heap} {es : Nat} {v : Value} {xs : List (List Value)} (h : rdS H es v = some xs) (ho : sliceOk H es v) {t e : TypeId} {i : TypeInfo} (he : elemA P t = some (e, i)) (hs : i.size = es) {n : Nat} (hn : n ≤ xs.length) (hpos : 0 < n) :
    ∃ v', sliceA P t v (some (n : Int)) none none H = some v' ∧ rdS H es v' = some (xs.drop n) ∧ sliceOk H es v' := by
  by_cases hb : ∀ b off n c, v = .slice (some ⟨b, off, none⟩) n c → c < BIG
  · obtain ⟨v', h1, h2, h3⟩ := rdS_from h he hs hn hpos hb
    refine ⟨v', h1, h2, ?_⟩
    unfold sliceOk
    split
    · rename_i a m c
      rcases a with ⟨b, off, sp⟩
      cases sp with
      | none => exact .inl (h3 b off m c rfl)
      | some q =>
        unfold rdS at h2
        split at h2
        · rename_i e; cases e
        · rename_i e; cases e
        · rename_i e; cases e; exact .inl (by rw [BIG_val]; omega)
        · cases h2
    · trivial
  · obtain ⟨b, off, c, own, es', cs, rfl, hg, hc, hl, hxs⟩ := rdS_some h (i := 0) (by omega)
    have hcb : ¬ c < BIG := fun hlt => hb fun b' off' n' c' e => by cases e; exact hlt
    have hcap : capA xs.length c = xs.length := by unfold capA; rw [if_neg hcb]
    rcases ho with ho | ⟨own2, cs2, ho⟩
    · exact absurd ho hcb
    · have hg2 : H.get b = some (.cells own2 es cs2) := ho
      rw [hg] at hg2
      cases hg2
      have hmul : n * es ≤ xs.length * es := Nat.mul_le_mul_right _ hn
      have hsub : (xs.length - n) * es = xs.length * es - n * es := Nat.sub_mul _ _ _
      refine ⟨.slice (some ⟨b, off + n * es, none⟩) (xs.length - n) BIG, ?_, ?_, .inr ⟨own, cs, hg⟩⟩
      · simp only [sliceA, he, hs]
        rw [if_pos (by simp only [Option.getD_some, Option.getD_none, hcap]; omega), if_neg hcb]
        simp only [hg, if_true, Option.getD_some, Option.getD_none, Int.toNat_natCast]
        have e1 : ((xs.length : Int) - (n : Int)).toNat = xs.length - n := by omega
        rw [e1]
      · have hcapn : capA (xs.length - n) BIG = xs.length - n := by unfold capA; rw [if_neg (Nat.lt_irrefl _)]
        simp only [rdS, hg]
        rw [if_pos ⟨by rw [hcapn]; exact Nat.le_refl _, by omega⟩]
        congr 1
        apply List.ext_getElem?
        intro j
        rw [List.getElem?_drop]
        by_cases hj : j < xs.length - n
        · rw [chunks_get es _ _ j hj, List.drop_drop]
          have hj2 : n + j < xs.length := by omega
          have hx2 : xs[n + j]? = (chunks es xs.length (cs.drop off))[n + j]? := by rw [← hxs]
          rw [hx2, chunks_get es _ _ (n + j) hj2, List.drop_drop, show off + n * es + j * es = off + (n + j) * es by rw [Nat.add_mul]; omega]
        · rw [List.getElem?_eq_none (by rw [chunks_length]; omega), List.getElem?_eq_none (by omega)]

theorem sliceA_ext {H H' : Heap} (hx : Ext H H') {t : TypeId} {v w : Value} {lo hi mx : Option Int} (h : sliceA P t v lo hi mx H = some w) : sliceA P t v lo hi mx H' = some w := by
  unfold sliceA at h ⊢
  split at h
  · split at h
    · exact h
    · split at h
      · rename_i hc
        rw [if_pos hc]
        split at h
        · rename_i hb; rw [if_pos hb]; exact h
        · rename_i hb
          rw [if_neg hb]
          split at h
          · rename_i hg; rw [hx _ _ hg]; exact h
          · cases h
      · cases h
  · exact h
  · cases h
/-- All but these blocks are as they were. -/
structure KeepB (H0 H : Heap) (S : List Nat) : Prop where
  wf : H.Wf
  le : H0.next ≤ H.next
  get : ∀ b, b < H0.next → b ∉ S → H.get b = H0.get b
theorem KeepB.refl {H : Heap} (hw : H.Wf) (S : List Nat) : KeepB H H S := ⟨hw, Nat.le_refl _, fun _ _ _ => rfl⟩
theorem KeepB.push {H0 H : Heap} {S : List Nat} (h : KeepB H0 H S) (o : AObj) : KeepB H0 (H.push o) S :=
  ⟨h.wf.push o, by have := h.le; simp; omega, fun b hb hS => by rw [get_push_ne (by have := h.le; omega)]; exact h.get b hb hS⟩
theorem KeepB.set {H0 H : Heap} {S : List Nat} (h : KeepB H0 H S) {c : Nat} (hc : c ∈ S ∨ H0.next ≤ c) (hc2 : c < H.next) (o : AObj) : KeepB H0 (H.set c o) S :=
  ⟨h.wf.set hc2 o, by simpa using h.le, fun b hb hS => by
    rw [get_set_ne (fun e => by subst e; rcases hc with hc | hc; exact hS hc; omega)]; exact h.get b hb hS⟩
theorem KeepB.kept {H0 H H' : Heap} {S : List Nat} {x : Option Nat} (h : KeepB H0 H S) (k : Kept H H' x) (hx : ∀ b, x = some b → b ∈ S ∨ H0.next ≤ b) : KeepB H0 H' S :=
  ⟨k.wf, Nat.le_trans h.le k.le, fun b hb hS => by
    rw [k.get b (Nat.lt_of_lt_of_le hb h.le) (fun e => by rcases hx b e.symm with hc | hc; exact hS hc; omega)]; exact h.get b hb hS⟩
theorem KeepB.of_get {H0 H : Heap} {S : List Nat} (h : KeepB H0 H S) (hw : H0.Wf) {b : Nat} {ob : AObj} (hb : H0.get b = some ob) (hS : b ∉ S) : H.get b = some ob := by
  rw [h.get b (hw.lt hb) hS]; exact hb

/-- A row that is ours: nothing yet, or what it says in a block of its own (which may hold more behind it). -/
def rowG (es lo : Nat) (H : Heap) (xs : List (List Value)) (v : Value) : Prop :=
  (xs = [] ∧ v = .slice none 0 0) ∨ ∃ b c cs, v = .slice (some ⟨b, 0, none⟩) xs.length c ∧ H.get b = some (.cells true es cs) ∧ xs.length * es ≤ cs.length ∧ chunks es xs.length cs = xs ∧ lo ≤ b ∧ b < H.next ∧ (c = BIG ∨ (c < BIG ∧ cs.length = c * es ∧ xs.length ≤ c))
theorem rowG.low {es lo lo' : Nat} {H : Heap} {xs : List (List Value)} {v : Value} (h : rowG es lo H xs v) (hl : lo' ≤ lo) : rowG es lo' H xs v := by
  rcases h with h | ⟨b, c, cs, h1, h2, h3, h4, h5, h6⟩
  · exact .inl h
  · exact .inr ⟨b, c, cs, h1, h2, h3, h4, by omega, h6⟩
theorem rowG.keepX {es lo : Nat} {H K : Heap} {x : Option Nat} {xs : List (List Value)} {v : Value} (h : rowG es lo H xs v) (k : Kept H K x) (hx : ∀ b, x = some b → blockOf v ≠ some b) : rowG es lo K xs v := by
  rcases h with h | ⟨b, c, cs, h1, h2, h3, h4, h5, h6, h7⟩
  · exact .inl h
  · have hne : some b ≠ x := fun e => hx b e.symm (by rw [h1]; rfl)
    exact .inr ⟨b, c, cs, h1, by rw [k.get b h6 hne]; exact h2, h3, h4, h5, Nat.lt_of_lt_of_le h6 k.le, h7⟩
theorem rowG.keep {es lo : Nat} {H K : Heap} {xs : List (List Value)} {v : Value} (h : rowG es lo H xs v) (k : Kept H K none) : rowG es lo K xs v := h.keepX k (fun b e => by cases e)
theorem rowG.set {es lo : Nat} {H : Heap} {xs : List (List Value)} {v : Value} (h : rowG es lo H xs v) {b : Nat} (hb : blockOf v ≠ some b) (o : AObj) : rowG es lo (H.set b o) xs v := by
  rcases h with h | ⟨b', c, cs, h1, h2, h3, h4, h5, h6, h7⟩
  · exact .inl h
  · have hne : b' ≠ b := fun e => hb (by rw [h1, ← e]; rfl)
    exact .inr ⟨b', c, cs, h1, by rw [get_set_ne hne]; exact h2, h3, h4, h5, by simpa using h6, h7⟩
theorem rowG.rd {es lo : Nat} {H : Heap} {xs : List (List Value)} {v : Value} (h : rowG es lo H xs v) : rdS H es v = some xs := by
  rcases h with ⟨rfl, rfl⟩ | ⟨b, c, cs, rfl, h2, h3, h4, _, _, h7⟩
  · rfl
  · have hcap : xs.length ≤ capA xs.length c := by
      unfold capA
      rcases h7 with rfl | ⟨h7, _, h8⟩
      · rw [if_neg (Nat.lt_irrefl _)]; exact Nat.le_refl _
      · rw [if_pos h7]; exact h8
    simp only [rdS, h2]
    rw [if_pos ⟨hcap, by omega⟩, List.drop_zero, h4]
theorem rowG.blk {es lo : Nat} {H : Heap} {xs : List (List Value)} {v : Value} (h : rowG es lo H xs v) : ∀ b, blockOf v = some b → lo ≤ b ∧ b < H.next := by
  intro b hb
  rcases h with ⟨_, rfl⟩ | ⟨b', c, cs, rfl, _, _, _, h5, h6, _⟩
  · cases hb
  · cases hb; exact ⟨h5, h6⟩
theorem rowG.ok {es lo : Nat} {H : Heap} {xs : List (List Value)} {v : Value} (h : rowG es lo H xs v) : sliceOk H es v := by
  rcases h with ⟨_, rfl⟩ | ⟨b, c, cs, rfl, h2, _⟩
  · trivial
  · exact .inr ⟨true, cs, h2⟩
theorem rowG.len {es lo : Nat} {H : Heap} {xs : List (List Value)} {v : Value} (h : rowG es lo H xs v) : ∀ x ∈ xs, x.length = es := by
  intro x hx
  obtain ⟨i, hi, rfl⟩ := List.mem_iff_getElem.1 hx
  exact rdS_elem h.rd (List.getElem?_eq_getElem hi)
theorem rowG.one {es lo : Nat} {H : Heap} {xs : List (List Value)} {v : Value} (h : rowG es lo H xs v) : v.cells = #[v] ∧ oneC v = true ∧ eqV v v = true := by
  obtain ⟨a, b, c, _⟩ := rdS_one h.rd
  exact ⟨a, b, c⟩
/-- The row without its last ones. -/
theorem rowG.cut {t e : TypeId} {i : TypeInfo} (he : elemA P t = some (e, i)) {es : Nat} (hi : i.size = es) {lo : Nat} {H : Heap} {xs : List (List Value)} {v : Value} (h : rowG es lo H xs v) {n : Nat} (hn : n < xs.length) :
    ∃ v', sliceA P t v none (some (n : Int)) none H = some v' ∧ rowG es lo H (xs.take n) v' ∧ blockOf v' = blockOf v := by
  rcases h with ⟨h1, _⟩ | ⟨b, c, cs, rfl, h2, h3, h4, h5, h6, h7⟩
  · rw [h1] at hn; simp at hn
  · have hcap : n ≤ capA xs.length c := by
      unfold capA
      rcases h7 with rfl | ⟨h7, _, h8⟩
      · rw [if_neg (Nat.lt_irrefl _)]; omega
      · rw [if_pos h7]; omega
    have hrow : rowG es lo H (xs.take n) (.slice (some ⟨b, 0, none⟩) n c) := by
      refine .inr ⟨b, c, cs, by rw [List.length_take, Nat.min_eq_left (by omega)], h2, ?_, ?_, h5, h6, ?_⟩
      · rw [List.length_take, Nat.min_eq_left (by omega)]
        have := Nat.mul_le_mul_right es (Nat.le_of_lt hn)
        omega
      · rw [List.length_take, Nat.min_eq_left (by omega), chunks_pre n xs.length cs (by omega), h4]
      · rcases h7 with h7 | ⟨h7, h8, h9⟩
        · exact .inl h7
        · exact .inr ⟨h7, h8, by rw [List.length_take]; omega⟩
    refine ⟨.slice (some ⟨b, 0, none⟩) n c, ?_, hrow, rfl⟩
    simp only [sliceA, he, Option.getD_none, Option.getD_some]
    rw [if_pos ⟨by omega, by omega, by omega⟩]
    rcases h7 with rfl | ⟨h7, h8, h9⟩
    · rw [if_neg (Nat.lt_irrefl _)]
      simp only [h2, hi, if_true]
      simp
    · rw [if_pos h7]
      simp
theorem rowG.here {es lo : Nat} {H : Heap} {xs : List (List Value)} {v : Value} (h : rowG es lo H xs v) (hn : 0 < xs.length) : ∃ b c, blockOf v = some b ∧ v = .slice (some ⟨b, 0, none⟩) xs.length c := by
  rcases h with ⟨h1, _⟩ | ⟨b', c, cs, rfl, _⟩
  · rw [h1] at hn; simp at hn
  · exact ⟨b', c, rfl, rfl⟩
/-- A row just built. -/
theorem rowG_push {es : Nat} {H : Heap} {xs : List (List Value)} (hx : ∀ x ∈ xs, x.length = es) (hn : xs.length < BIG) {lo : Nat} (hlo : lo ≤ H.next) : rowG es lo (H.push (.cells true es xs.flatten)) xs (.slice (some ⟨H.next, 0, none⟩) xs.length xs.length) :=
  .inr ⟨H.next, xs.length, xs.flatten, rfl, get_push_self _ _, by rw [flatten_length xs hx]; exact Nat.le_refl _, Go.Abs.chunks_flatten xs hx, hlo, by simp, .inr ⟨hn, flatten_length xs hx, Nat.le_refl _⟩⟩
theorem chunks_app {es : Nat} : ∀ (xs : List (List Value)) (n : Nat) (cs : List Value), (∀ x ∈ xs, x.length = es) → chunks es (xs.length + n) (xs.flatten ++ cs) = xs ++ chunks es n cs
  | [], n, cs, _ => by simp
  | x :: xs, n, cs, h => by
    have hx := h x (by simp)
    rw [List.length_cons, show xs.length + 1 + n = (xs.length + n) + 1 by omega, chunks, List.flatten_cons, List.append_assoc, List.take_append_of_le_length (by omega), List.take_of_length_le (by omega), List.drop_append_of_le_length (by omega), List.drop_eq_nil_of_le (by omega), List.nil_append, chunks_app xs n cs fun y hy => h y (by simp [hy])]
    rfl

/-- append onto a row that is ours. -/
theorem rowG.app {t e : TypeId} {i : TypeInfo} {z : Value} {zn : Nat} (he : elemA P t = some (e, i)) (hz : zeroA P e = some (z, zn)) {es : Nat} (hi : i.size = es) (hby : i.bytes ≤ 65536) (hes : 0 < es) (hzs : z.cells.size = es) {lo : Nat} {H : Heap} {xs ys : List (List Value)} {v x : Value} (hw : H.Wf) (hv : rowG es lo H xs v) (hx : rdS H es x = some ys) (hn : xs.length + ys.length ≤ 1073741824) (h1 : ys.flatten.all oneC = true) (hne : 0 < ys.length) (hlo : lo ≤ H.next) :
    ∃ v' H', builtinA P .append #[t, t] [v, x] H = some (.val v', H') ∧ Kept H H' (blockOf v) ∧ rowG es lo H' (xs ++ ys) v' ∧ (blockOf v' = some H.next ∨ blockOf v' = blockOf v) := by
  obtain ⟨hcx, hlx⟩ := cellsA_rdS hx
  have hel : ∀ y ∈ ys, y.length = es := fun y hy => by
    obtain ⟨k, hk, rfl⟩ := List.mem_iff_getElem.1 hy
    exact rdS_elem hx (List.getElem?_eq_getElem hk)
  have hexl := hv.len
  have hal : ∀ y ∈ xs ++ ys, y.length = es := fun y hy => by
    rcases List.mem_append.1 hy with h | h
    · exact hexl y h
    · exact hel y h
  have hne' : ¬ ys.length = 0 := by omega
  rcases hv with ⟨rfl, rfl⟩ | ⟨b, c, cs, rfl, hb, h3, h4, h5, h6, h7⟩
  · refine ⟨.slice (some ⟨H.next, 0, none⟩) ys.length BIG, H.push (.cells true es ys.flatten), ?_, (Kept.refl hw _).push _, .inr ⟨H.next, BIG, ys.flatten, by simp, get_push_self _ _, by simp [flatten_length ys hel], by simp [Go.Abs.chunks_flatten ys hel], hlo, by simp, .inl rfl⟩, .inl rfl⟩
    have hc0 : cellsA H es (.slice none 0 0) = some [] := rfl
    have hl0 : lenA (.slice none 0 0) = some 0 := rfl
    simp only [builtinA, appendA, he, hz, hi, hcx, hlx, hc0, hl0, if_true]
    rw [if_pos ⟨hby, hn, hes, hzs, h1⟩, if_neg hne']
    simp
  · have hcb : cellsA H es (.slice (some ⟨b, 0, none⟩) xs.length c) = some xs.flatten := by
      simp only [cellsA, hb]
      rw [if_pos (by omega), List.drop_zero, ← Go.Abs.chunks_take xs.length cs h3, h4]
    have hlb : lenA (.slice (some ⟨b, 0, none⟩) xs.length c) = some xs.length := rfl
    have hnew : ∀ H2 : Heap, H2.next = H.next → rowG es lo (H2.push (.cells true es (xs.flatten ++ ys.flatten))) (xs ++ ys) (.slice (some ⟨H.next, 0, none⟩) (xs.length + ys.length) BIG) := fun H2 hn2 => by
      have g := get_push_self H2 (.cells true es (xs.flatten ++ ys.flatten))
      rw [hn2] at g
      refine .inr ⟨H.next, BIG, xs.flatten ++ ys.flatten, by simp, g, ?_, ?_, hlo, by simp [hn2], .inl rfl⟩
      · rw [List.length_append, List.length_append, flatten_length xs hexl, flatten_length ys hel, Nat.add_mul]; exact Nat.le_refl _
      · rw [← List.flatten_append]; exact Go.Abs.chunks_flatten (xs ++ ys) hal
    rcases h7 with rfl | ⟨h7, h8, h9⟩
    · refine ⟨.slice (some ⟨H.next, 0, none⟩) (xs.length + ys.length) BIG, (H.set b .dead).push (.cells true es (xs.flatten ++ ys.flatten)), ?_, ((Kept.refl hw (some b)).kill h6 _).push _, hnew _ rfl, .inl rfl⟩
      simp only [builtinA, appendA, he, hz, hi, hcx, hlx, hcb, hlb, if_true]
      rw [if_pos ⟨hby, hn, hes, hzs, h1⟩, if_neg hne', if_neg (Nat.lt_irrefl _)]
      simp only [hb, if_true]
      simp
    · by_cases hroom : xs.length + ys.length ≤ c
      · have hput : putL cs (xs.length * es) ys.flatten = xs.flatten ++ (ys.flatten ++ cs.drop ((xs.length + ys.length) * es)) := by
          have : cs.take (xs.length * es) = xs.flatten := by rw [← Go.Abs.chunks_take xs.length cs h3, h4]
          simp only [putL, this, flatten_length ys hel, ← Nat.add_mul]
          try simp
        refine ⟨.slice (some ⟨b, 0, none⟩) (xs.length + ys.length) c, H.set b (.cells true es (putL cs (xs.length * es) ys.flatten)), ?_, (Kept.refl hw (some b)).kill h6 _, .inr ⟨b, c, putL cs (xs.length * es) ys.flatten, by simp, get_set_self _ _ _, ?_, ?_, h5, by simpa using h6, .inr ⟨h7, ?_, by simpa using hroom⟩⟩, .inr rfl⟩
        · have hfit : 0 + (xs.length + ys.length) * es ≤ cs.length := by rw [h8, Nat.zero_add]; exact Nat.mul_le_mul_right _ hroom
          simp only [builtinA, appendA, he, hz, hi, hcx, hlx, hcb, hlb, if_true]
          rw [if_pos ⟨hby, hn, hes, hzs, h1⟩, if_neg hne', if_pos h7, if_pos hroom]
          simp only [hb]
          rw [if_pos hfit]
          try simp
        · rw [hput, List.length_append, List.length_append, List.length_append, flatten_length xs hexl, flatten_length ys hel, Nat.add_mul]; omega
        · rw [hput, ← List.append_assoc, ← List.flatten_append, List.length_append]
          have := chunks_app (xs ++ ys) 0 (cs.drop ((xs.length + ys.length) * es)) hal
          rw [List.length_append, Nat.add_zero] at this
          rw [this]; simp [chunks]
        · have hfit : (xs.length + ys.length) * es ≤ cs.length := by rw [h8]; exact Nat.mul_le_mul_right _ hroom
          rw [hput, List.length_append, List.length_append, flatten_length xs hexl, flatten_length ys hel, List.length_drop]
          rw [Nat.add_mul] at hfit ⊢
          omega
      · refine ⟨.slice (some ⟨H.next, 0, none⟩) (xs.length + ys.length) BIG, H.push (.cells true es (xs.flatten ++ ys.flatten)), ?_, (Kept.refl hw _).push _, hnew H rfl, .inl rfl⟩
        simp only [builtinA, appendA, he, hz, hi, hcx, hlx, hcb, hlb, if_true]
        rw [if_pos ⟨hby, hn, hes, hzs, h1⟩, if_neg hne', if_pos h7, if_neg hroom]
        simp
end
end Go.Abs
