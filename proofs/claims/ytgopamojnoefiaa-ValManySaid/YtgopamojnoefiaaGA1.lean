/-
  A part of a proof: texts laid behind one another (A1, A2, A3, A4, A5, A6).
-/
import Derived.Below
import Derived.RangeFuncIn
import Derived.RecoverIn
import Derived.Laws.AppendOwn
import Derived.Laws.OwnMore
import Derived.KernelRfl
import Derived.Laws.Tables
import Derived.Laws.MakeOwn
import Derived.Laws.Append
/-
  The abstract heap and values, and how they stand to a world of the model: a partial map of abstract blocks to places in the world's blocks.
-/
namespace Go.Abs
open Go Go.RowKit

/-! ### A map from numbers, as a tree -/
inductive Tr (α : Type) where
  | nil
  | node (l : Tr α) (v : Option α) (r : Tr α)

variable {α : Type}

/- By their recursors: the kernel runs these much faster than what a definition by patterns turns into. -/
noncomputable def Tr.get (t : Tr α) : Nat → Option α :=
  @Tr.rec α (fun _ => Nat → Option α) (fun _ => none)
    (fun _ v _ ihl ihr k => @Nat.rec (fun _ => Option α) v (fun k _ => @Bool.rec (fun _ => Option α) (ihr (Nat.div k 2)) (ihl (Nat.div k 2)) (Nat.beq (Nat.mod k 2) 0)) k) t

noncomputable def Tr.lft (t : Tr α) : Tr α := @Tr.rec α (fun _ => Tr α) .nil (fun l _ _ _ _ => l) t
noncomputable def Tr.mid (t : Tr α) : Option α := @Tr.rec α (fun _ => Option α) none (fun _ v _ _ _ => v) t
noncomputable def Tr.rgt (t : Tr α) : Tr α := @Tr.rec α (fun _ => Tr α) .nil (fun _ _ r _ _ => r) t

noncomputable def Tr.put (f : Nat) : Tr α → Nat → α → Tr α :=
  @Nat.rec (fun _ => Tr α → Nat → α → Tr α) (fun t _ _ => t)
    (fun _ ih t k x => @Tr.rec α (fun _ => Tr α)
      (@Nat.rec (fun _ => Tr α) (.node .nil (some x) .nil) (fun k _ => @Bool.rec (fun _ => Tr α) (.node .nil none (ih .nil (Nat.div k 2) x)) (.node (ih .nil (Nat.div k 2) x) none .nil) (Nat.beq (Nat.mod k 2) 0)) k)
      (fun l v r _ _ => @Nat.rec (fun _ => Tr α) (.node l (some x) r) (fun k _ => @Bool.rec (fun _ => Tr α) (.node l v (ih r (Nat.div k 2) x)) (.node (ih l (Nat.div k 2) x) v r) (Nat.beq (Nat.mod k 2) 0)) k) t) f

@[simp] theorem Tr.get_nil (k : Nat) : (Tr.nil : Tr α).get k = none := rfl
@[simp] theorem Tr.get_node_zero (l r : Tr α) (v : Option α) : (Tr.node l v r).get 0 = v := rfl
@[simp] theorem Tr.get_node_succ (l r : Tr α) (v : Option α) (k : Nat) : (Tr.node l v r).get (k + 1) = bif Nat.beq (k % 2) 0 then l.get (k / 2) else r.get (k / 2) := by
  show @Bool.rec _ _ _ (Nat.beq (k % 2) 0) = _
  cases Nat.beq (k % 2) 0 <;> rfl
theorem Tr.put_zero (t : Tr α) (k : Nat) (x : α) : Tr.put 0 t k x = t := rfl
theorem Tr.put_succ_zero (f : Nat) (t : Tr α) (x : α) : Tr.put (f + 1) t 0 x = .node t.lft (some x) t.rgt := by cases t <;> rfl
theorem Tr.put_succ_succ (f : Nat) (t : Tr α) (k : Nat) (x : α) : Tr.put (f + 1) t (k + 1) x = bif Nat.beq (k % 2) 0 then .node (Tr.put f t.lft (k / 2) x) t.mid t.rgt else .node t.lft t.mid (Tr.put f t.rgt (k / 2) x) := by
  cases t <;> (show @Bool.rec _ _ _ (Nat.beq (k % 2) 0) = _) <;> cases Nat.beq (k % 2) 0 <;> rfl

theorem Tr.get_succ (t : Tr α) (k : Nat) : t.get (k + 1) = bif Nat.beq (k % 2) 0 then t.lft.get (k / 2) else t.rgt.get (k / 2) := by
  cases t with
  | nil => show none = _; cases Nat.beq (k % 2) 0 <;> rfl
  | node l v r => exact Tr.get_node_succ l r v k

theorem Tr.get_zero (t : Tr α) : t.get 0 = t.mid := by cases t <;> rfl

theorem Tr.get_put (f : Nat) : ∀ (t : Tr α) (k : Nat) (x : α) (j : Nat), k < f → (Tr.put f t k x).get j = if j = k then some x else t.get j := by
  induction f with
  | zero => intro t k x j h; omega
  | succ f ih =>
    intro t k x j h
    cases k with
    | zero =>
      rw [Tr.put_succ_zero]
      cases j with
      | zero => simp
      | succ j => simp only [Tr.get_node_succ, Nat.succ_ne_zero, if_false]; rw [Tr.get_succ]
    | succ k =>
      have hk : k / 2 < f := by omega
      rw [Tr.put_succ_succ]
      rcases hb : Nat.beq (k % 2) 0 with _ | _
      · have hk2 : k % 2 ≠ 0 := Nat.ne_of_beq_eq_false hb
        simp only [cond_false]
        cases j with
        | zero => rw [if_neg (by omega), Tr.get_zero t]; rfl
        | succ j =>
          simp only [Tr.get_node_succ, ih _ _ _ _ hk]
          rw [Tr.get_succ]
          rcases hj : Nat.beq (j % 2) 0 with _ | _
          · have hj2 : j % 2 ≠ 0 := Nat.ne_of_beq_eq_false hj
            simp only [cond_false]
            have : (j / 2 = k / 2) = (j + 1 = k + 1) := by apply propext; constructor <;> intro h <;> omega
            simp only [this]
          · have hj2 : j % 2 = 0 := Nat.eq_of_beq_eq_true hj
            simp only [cond_true]
            rw [if_neg (by omega)]
      · have hk2 : k % 2 = 0 := Nat.eq_of_beq_eq_true hb
        simp only [cond_true]
        cases j with
        | zero => rw [if_neg (by omega), Tr.get_zero t]; rfl
        | succ j =>
          simp only [Tr.get_node_succ, ih _ _ _ _ hk]
          rw [Tr.get_succ]
          rcases hj : Nat.beq (j % 2) 0 with _ | _
          · have hj2 : j % 2 ≠ 0 := Nat.ne_of_beq_eq_false hj
            simp only [cond_false]
            rw [if_neg (by omega)]
          · have hj2 : j % 2 = 0 := Nat.eq_of_beq_eq_true hj
            simp only [cond_true]
            have : (j / 2 = k / 2) = (j + 1 = k + 1) := by apply propext; constructor <;> intro h <;> omega
            simp only [this]

noncomputable def Tr.set (t : Tr α) (k : Nat) (x : α) : Tr α := Tr.put (k + 1) t k x

theorem Tr.get_set (t : Tr α) (k : Nat) (x : α) (j : Nat) : (t.set k x).get j = if j = k then some x else t.get j := Tr.get_put _ _ _ _ _ (Nat.lt_succ_self k)

/-! ### Environments -/
abbrev Env := Tr Value
noncomputable def Env.val (e : Env) (t : Nat) : Value := (Tr.get e t).getD undef
theorem Env.val_set (e : Env) (k : Nat) (x : Value) (j : Nat) : Env.val (Tr.set e k x) j = if j = k then x else Env.val e j := by
  simp only [Env.val, Tr.get_set]; split <;> rfl

/-! ### The abstract heap -/
/-- A capacity that is not known. -/
def BIG : Nat := 9223372036854775808

structure ALoop where
  env : Env
  params : Array Tmp
  assign : Code
  body : Code
  state : LoopState
  pending : Option Code
  nt : Nat
  nf : Nat

inductive AObj where
  | cells (own : Bool) (es : Nat) (cs : List Value)
  | vol (n : Nat)
  | amap (k : IntKind) (es : List (Int × Value))
  | loop (r : ALoop)
  | defs
  | dead

structure Heap where
  next : Nat
  tr : Tr AObj
  low : Nat

noncomputable def Heap.get (H : Heap) (b : Nat) : Option AObj := H.tr.get b
noncomputable def Heap.push (H : Heap) (o : AObj) : Heap := { H with next := H.next + 1, tr := H.tr.set H.next o }
noncomputable def Heap.set (H : Heap) (b : Nat) (o : AObj) : Heap := { H with tr := H.tr.set b o, low := Nat.min H.low b }
def Heap.empty : Heap := { next := 0, tr := .nil, low := 0 }

theorem Heap.get_push (H : Heap) (o : AObj) (b : Nat) : (H.push o).get b = if b = H.next then some o else H.get b := Tr.get_set _ _ _ _
theorem Heap.get_set (H : Heap) (c : Nat) (o : AObj) (b : Nat) : (H.set c o).get b = if b = c then some o else H.get b := Tr.get_set _ _ _ _
@[simp] theorem Heap.next_push (H : Heap) (o : AObj) : (H.push o).next = H.next + 1 := rfl
@[simp] theorem Heap.next_set (H : Heap) (c : Nat) (o : AObj) : (H.set c o).next = H.next := rfl
theorem Heap.get_empty (b : Nat) : Heap.empty.get b = none := rfl

def AObj.own : AObj → Bool
  | .cells own _ _ => own
  | .dead => false
  | _ => true
def AObj.live : AObj → Bool
  | .dead => false
  | _ => true

/-! ### Where abstract blocks lie -/
structure Loc where
  B : Nat
  o : Nat
  K : Nat
  es : Nat

/-- A partial map of abstract blocks; none below n will be added. -/
structure Ren where
  f : Nat → Option Loc
  n : Nat
instance : CoeFun Ren (fun _ => Nat → Option Loc) := ⟨Ren.f⟩
structure Ren.le (r r' : Ren) : Prop where
  map : ∀ b L, r b = some L → r' b = some L
  up : r.n ≤ r'.n
  old : ∀ b, b < r.n → r b = none → r' b = none
instance (r r' : Ren) : CoeFun (Ren.le r r') (fun _ => ∀ b L, r b = some L → r' b = some L) := ⟨Ren.le.map⟩
theorem Ren.le_refl (r : Ren) : Ren.le r r := ⟨fun _ _ h => h, Nat.le_refl _, fun _ _ h => h⟩
theorem Ren.le_trans {a b c : Ren} (h : Ren.le a b) (k : Ren.le b c) : Ren.le a c :=
  ⟨fun x L hx => k x L (h x L hx), Nat.le_trans h.up k.up, fun x hx hn => k.old x (Nat.lt_of_lt_of_le hx h.up) (h.old x hx hn)⟩
def Ren.none : Ren := ⟨fun _ => Option.none, 0⟩
def Ren.add (r : Ren) (b : Nat) (L : Loc) : Ren := ⟨fun x => if x = b then some L else r x, Nat.max r.n (b + 1)⟩
theorem Ren.le_add {r : Ren} {b : Nat} {L : Loc} (h : r b = Option.none) (hn : r.n ≤ b) : Ren.le r (r.add b L) := by
  refine ⟨fun x M hx => ?_, Nat.le_max_left _ _, fun x hx hr => ?_⟩
  · simp only [Ren.add]; split
    · rename_i e; subst e; rw [h] at hx; cases hx
    · exact hx
  · simp only [Ren.add]; rw [if_neg (by omega)]; exact hr
theorem Ren.add_self (r : Ren) (b : Nat) (L : Loc) : r.add b L b = some L := by simp [Ren.add]

/-- How a slice's capacity stands to what is known of it. -/
def capRel (L : Loc) (o' n c c' : Nat) : Prop := n ≤ c' ∧ c' ≤ maxLen ∧ (c < BIG → c' = c) ∧ (BIG ≤ c → o' + c' * L.es ≤ L.o + L.K)

inductive VRel (r : Ren) : Value → Value → Prop
  | bool (b : Bool) : VRel r (.bool b) (.bool b)
  | int (k : IntKind) (n : Int) : VRel r (.int k n) (.int k n)
  | string (s : ByteArray) : VRel r (.string s) (.string s)
  | ptrNil : VRel r (.pointer none) (.pointer none)
  | ptr {b off : Nat} {L : Loc} (h : r b = some L) : VRel r (.pointer (some ⟨b, off, none⟩)) (.pointer (some ⟨L.B, L.o + off, none⟩))
  | sliceNil : VRel r (.slice none 0 0) (.slice none 0 0)
  | slice {b off n c o' c' : Nat} {L : Loc} (h : r b = some L) (ho : o' = L.o + off ∨ (n = 0 ∧ (BIG ≤ c ∨ c = 0) ∧ L.o ≤ o')) (hc : capRel L o' n c c') :
      VRel r (.slice (some ⟨b, off, none⟩) n c) (.slice (some ⟨L.B, o', none⟩) n c')
  | sliceZ (a : Addr) : VRel r (.slice (some ⟨0, 0, some 0⟩) 0 0) (.slice (some a) 0 0)
  | mapNil : VRel r (.map none) (.map none)
  | map {b : Nat} {L : Loc} (h : r b = some L) : VRel r (.map (some b)) (.map (some L.B))
  | func (f : FuncId) {xs ys cs ds : Array Value} (h1 : xs.size = ys.size) (h2 : ∀ (i : Nat) x y, xs[i]? = some x → ys[i]? = some y → VRel r x y)
      (h3 : cs.size = ds.size) (h4 : ∀ (i : Nat) x y, cs[i]? = some x → ds[i]? = some y → VRel r x y) : VRel r (.func (.func f) xs cs) (.func (.func f) ys ds)
  | yield {b : Nat} {L : Loc} (h : r b = some L) : VRel r (.func (.yield b) #[] #[]) (.func (.yield L.B) #[] #[])
  | nilFunc : VRel r .nilFunc .nilFunc
  | nilIface : VRel r .nilIface .nilIface
  | iface (t : TypeId) {x y : Value} (h : VRel r x y) : VRel r (.iface t x) (.iface t y)
  | agg {xs ys : Array Value} (h1 : xs.size = ys.size) (h2 : ∀ (i : Nat) x y, xs[i]? = some x → ys[i]? = some y → VRel r x y) : VRel r (.agg xs) (.agg ys)
  | tuple {xs ys : Array Value} (h1 : xs.size = ys.size) (h2 : ∀ (i : Nat) x y, xs[i]? = some x → ys[i]? = some y → VRel r x y) : VRel r (.tuple xs) (.tuple ys)

theorem VRel.mono {r r' : Ren} {x y : Value} (h : VRel r x y) (hr : Ren.le r r') : VRel r' x y := by
  induction h with
  | bool b => exact .bool b
  | int k n => exact .int k n
  | string s => exact .string s
  | ptrNil => exact .ptrNil
  | ptr h => exact .ptr (hr _ _ h)
  | sliceNil => exact .sliceNil
  | slice h ho hc => exact .slice (hr _ _ h) ho hc
  | sliceZ a => exact .sliceZ a
  | mapNil => exact .mapNil
  | map h => exact .map (hr _ _ h)
  | func f h1 _ h3 _ i1 i2 => exact .func f h1 i1 h3 i2
  | yield h => exact .yield (hr _ _ h)
  | nilFunc => exact .nilFunc
  | nilIface => exact .nilIface
  | iface t _ ih => exact .iface t ih
  | agg h1 _ ih => exact .agg h1 ih
  | tuple h1 _ ih => exact .tuple h1 ih

/-- Lists of values, one by one. -/
def LRel (r : Ren) (xs ys : List Value) : Prop := xs.length = ys.length ∧ ∀ (i : Nat) x y, xs[i]? = some x → ys[i]? = some y → VRel r x y
theorem LRel.nil (r : Ren) : LRel r [] [] := ⟨rfl, fun i x y h => by simp at h⟩
theorem LRel.cons {r : Ren} {x y : Value} {xs ys : List Value} (h : VRel r x y) (hs : LRel r xs ys) : LRel r (x :: xs) (y :: ys) := by
  refine ⟨by simp [hs.1], fun i a b ha hb => ?_⟩
  cases i with
  | zero => simp at ha hb; subst ha; subst hb; exact h
  | succ i => simp at ha hb; exact hs.2 i a b ha hb
theorem LRel.mono {r r' : Ren} {xs ys : List Value} (h : LRel r xs ys) (hr : Ren.le r r') : LRel r' xs ys := ⟨h.1, fun i x y hx hy => (h.2 i x y hx hy).mono hr⟩
theorem LRel.get {r : Ren} {xs ys : List Value} (h : LRel r xs ys) {i : Nat} {x : Value} (hx : xs[i]? = some x) : ∃ y, ys[i]? = some y ∧ VRel r x y := by
  have hi : i < xs.length := (List.getElem?_eq_some_iff.1 hx).1
  have hj : i < ys.length := h.1 ▸ hi
  exact ⟨ys[i], List.getElem?_eq_getElem hj, h.2 i x _ hx (List.getElem?_eq_getElem hj)⟩
theorem LRel.append {r : Ren} {xs ys us vs : List Value} (h : LRel r xs ys) (k : LRel r us vs) : LRel r (xs ++ us) (ys ++ vs) := by
  refine ⟨by simp [h.1, k.1], fun i a b ha hb => ?_⟩
  by_cases hi : i < xs.length
  · rw [List.getElem?_append_left hi] at ha
    rw [List.getElem?_append_left (h.1 ▸ hi)] at hb
    exact h.2 i a b ha hb
  · rw [List.getElem?_append_right (by omega)] at ha
    rw [List.getElem?_append_right (by have := h.1; omega)] at hb
    rw [← h.1] at hb
    exact k.2 _ a b ha hb
theorem LRel.take {r : Ren} {xs ys : List Value} (h : LRel r xs ys) (n : Nat) : LRel r (xs.take n) (ys.take n) := by
  refine ⟨by simp [h.1], fun i a b ha hb => ?_⟩
  rw [List.getElem?_take] at ha hb
  split at ha
  · rename_i hi; rw [if_pos hi] at hb; exact h.2 i a b ha hb
  · cases ha
theorem LRel.drop {r : Ren} {xs ys : List Value} (h : LRel r xs ys) (n : Nat) : LRel r (xs.drop n) (ys.drop n) := by
  refine ⟨by simp [h.1], fun i a b ha hb => ?_⟩
  rw [List.getElem?_drop] at ha hb
  exact h.2 _ a b ha hb

/-! ### Worlds -/
def MRel (r : Ren) (k : IntKind) (es : List (Int × Value)) (M : List MapEntry) : Prop :=
  es.length = M.length ∧ ∀ (i : Nat) n x e, es[i]? = some (n, x) → M[i]? = some e → e.key = .int k n ∧ VRel r x e.val

def ERel (r : Ren) (env : Env) (tmps : Array Value) : Prop := ∀ i, VRel r (env.val i) (tmps.getD i undef)

def ORel (base : Nat) (r : Ren) (L : Loc) (w : World) : AObj → Prop
  | .cells own es cs => ∃ C e fz, w.heap[L.B]? = some (.cells C e fz) ∧ L.es = es ∧ (own = true → fz = (0, 0) ∧ base ≤ L.B ∧ L.o + L.K ≤ C.size) ∧
      L.o + cs.length ≤ C.size ∧ ∀ (i : Nat) v, cs[i]? = some v → ∃ v', C[L.o + i]? = some v' ∧ VRel r v v'
  | .vol n => ∃ C e, w.heap[L.B]? = some (.cells C e (0, 0)) ∧ base ≤ L.B ∧ L.o + n ≤ C.size
  | .amap k es => ∃ M clock, w.heap[L.B]? = some (.map M clock) ∧ base ≤ L.B ∧ MRel r k es M.toList
  | .loop a => ∃ c : Loop, w.heap[L.B]? = some (.loop c) ∧ base ≤ L.B ∧ c.state = a.state ∧ c.pending = a.pending ∧ c.params = a.params ∧ c.assign = a.assign ∧ c.body = a.body ∧ c.tmps.size = a.nt ∧ c.fn < a.nf ∧ ERel r a.env c.tmps
  | .defs => w.heap[L.B]? = some (.deferred (some [])) ∧ base ≤ L.B
  | .dead => True

structure Rel (base : Nat) (w0 : World) (r : Ren) (H : Heap) (w : World) : Prop where
  below : Below base w0 w
  le : base ≤ w.heap.size
  dom : ∀ b L, r b = some L → ∃ ob, H.get b = some ob ∧ ORel base r L w ob
  inj : ∀ b c L M ob oc, r b = some L → r c = some M → H.get b = some ob → H.get c = some oc → ob.own = true → oc.live = true → b ≠ c → L.B ≠ M.B
  wf : ∀ b, H.next ≤ b → H.get b = none
  rn : r.n ≤ H.next

theorem Rel.fresh {base : Nat} {w0 w : World} {r : Ren} {H : Heap} (h : Rel base w0 r H w) {b : Nat} (hb : H.next ≤ b) : r b = none := by
  cases hr : r b with
  | none => rfl
  | some L => obtain ⟨ob, hg, _⟩ := h.dom b L hr; rw [h.wf b hb] at hg; cases hg

theorem Rel.empty (w : World) : Rel w.heap.size w Ren.none Heap.empty w :=
  ⟨Below.refl _ _, Nat.le_refl _, (fun _ _ h => by cases h), (fun _ _ _ _ _ _ h => by cases h), fun _ _ => rfl, Nat.le_refl _⟩
end Go.Abs

/-
  The steps on memory that an abstract run makes, carried over to the model's world: a new block, a store, an append in place, a map.
-/
namespace Go.Abs
noncomputable section
open Go Go.RowKit
set_option linter.unusedVariables false

theorem ORel.of_heap {base : Nat} {r r' : Ren} {L : Loc} {w w' : World} {ob : AObj} (h : ORel base r L w ob) (hr : Ren.le r r') (hw : w'.heap[L.B]? = w.heap[L.B]?) : ORel base r' L w' ob := by
  cases ob with
  | cells own es cs =>
    obtain ⟨C, e, fz, h1, h2, h3, h4, h5⟩ := h
    exact ⟨C, e, fz, hw.trans h1, h2, h3, h4, fun i v hv => let ⟨v', a, b⟩ := h5 i v hv; ⟨v', a, b.mono hr⟩⟩
  | vol n => obtain ⟨C, e, h1, h2⟩ := h; exact ⟨C, e, hw.trans h1, h2⟩
  | amap k es =>
    obtain ⟨M, cl, h1, h2, h3, h4⟩ := h
    exact ⟨M, cl, hw.trans h1, h2, h3, fun i n x e a b => let ⟨c, d⟩ := h4 i n x e a b; ⟨c, d.mono hr⟩⟩
  | loop a =>
    obtain ⟨c, h1, h2, h3, h4, h6, h7, h8, h9, h11, h10⟩ := h
    exact ⟨c, hw.trans h1, h2, h3, h4, h6, h7, h8, h9, h11, fun i => (h10 i).mono hr⟩
  | defs => exact ⟨hw.trans h.1, h.2⟩
  | dead => trivial

theorem ORel.lt {base : Nat} {r : Ren} {L : Loc} {w : World} {ob : AObj} (h : ORel base r L w ob) (hl : ob.live = true) : L.B < w.heap.size := by
  cases ob with
  | cells own es cs => obtain ⟨C, e, fz, h1, _⟩ := h; exact (Array.getElem?_eq_some_iff.1 h1).1
  | vol n => obtain ⟨C, e, h1, h2⟩ := h; exact (Array.getElem?_eq_some_iff.1 h1).1
  | amap k es => obtain ⟨M, cl, h1, _⟩ := h; exact (Array.getElem?_eq_some_iff.1 h1).1
  | loop a => obtain ⟨c, h1, _⟩ := h; exact (Array.getElem?_eq_some_iff.1 h1).1
  | defs => exact (Array.getElem?_eq_some_iff.1 h.1).1
  | dead => cases hl

theorem ORel.base_le {base : Nat} {r : Ren} {L : Loc} {w : World} {ob : AObj} (h : ORel base r L w ob) (hl : ob.own = true) : base ≤ L.B := by
  cases ob with
  | cells own es cs => obtain ⟨C, e, fz, h1, _, h3, _⟩ := h; exact (h3 hl).2.1
  | vol n => obtain ⟨C, e, h1, h2, _⟩ := h; exact h2
  | amap k es => obtain ⟨M, cl, h1, h2, _⟩ := h; exact h2
  | loop a => obtain ⟨c, h1, h2, _⟩ := h; exact h2
  | defs => exact h.2
  | dead => cases hl

variable {base : Nat} {w0 w : World} {r : Ren} {H : Heap}

/-- A world with the same heap. -/
theorem Rel.of_heap {w' : World} (h : Rel base w0 r H w) (hh : w'.heap = w.heap) (hb : Below base w0 w') : Rel base w0 r H w' :=
  ⟨hb, by rw [hh]; exact h.le, fun b L hL => let ⟨ob, a, c⟩ := h.dom b L hL; ⟨ob, a, c.of_heap (Ren.le_refl _) (by rw [hh])⟩, h.inj, h.wf, h.rn⟩

theorem Rel.drew (h : Rel base w0 r H w) : Rel base w0 r H w.drew := h.of_heap rfl h.below.drew

theorem heap_alloc_lt (w : World) (o : Obj) {k : Nat} (h : k < w.heap.size) : (w.alloc o).heap[k]? = w.heap[k]? := Below.heap_alloc w o k h

/-- A new block that the abstract heap knows of. -/
theorem Rel.alloc (h : Rel base w0 r H w) (o : Obj) (ob : AObj) (L : Loc) (hL : L.B = w.heap.size) (hob : ob.live = true)
    (ho : ORel base (r.add H.next L) L (w.alloc o) ob) : Rel base w0 (r.add H.next L) (H.push ob) (w.alloc o) ∧ Ren.le r (r.add H.next L) := by
  have hf : r H.next = none := h.fresh (Nat.le_refl _)
  have hle : Ren.le r (r.add H.next L) := Ren.le_add hf h.rn
  refine ⟨⟨h.below.alloc h.le o, by rw [World.size_alloc]; have := h.le; omega, ?_, ?_, ?_, by rw [Heap.next_push]; exact Nat.max_le.2 ⟨by have := h.rn; omega, Nat.le_refl _⟩⟩, hle⟩
  · intro b M hM
    simp only [Ren.add] at hM
    rw [Heap.get_push]
    split at hM
    · rename_i e; subst e; cases hM; exact ⟨ob, by simp, ho⟩
    · rename_i e
      obtain ⟨oc, hg, hO⟩ := h.dom b M hM
      refine ⟨oc, by rw [if_neg e]; exact hg, ?_⟩
      by_cases hl : oc.live = true
      · exact hO.of_heap hle (heap_alloc_lt w o (hO.lt hl))
      · cases oc <;> first | trivial | exact absurd rfl hl
  · intro b c M N ob' oc hM hN hgb hgc hown hliv hne
    simp only [Ren.add] at hM hN
    rw [Heap.get_push] at hgb hgc
    by_cases hb : b = H.next
    · subst hb
      rw [if_pos rfl] at hM
      cases hM
      have hc : ¬ c = H.next := fun e => hne e.symm
      rw [if_neg hc] at hN hgc
      obtain ⟨oc', hg', hO⟩ := h.dom c N hN
      rw [hgc] at hg'; cases hg'
      have := hO.lt hliv
      omega
    · rw [if_neg hb] at hM hgb
      by_cases hc : c = H.next
      · subst hc
        rw [if_pos rfl] at hN
        cases hN
        obtain ⟨ob'', hg', hO⟩ := h.dom b M hM
        rw [hgb] at hg'; cases hg'
        have : ob'.live = true := by cases ob' <;> first | rfl | cases hown
        have := hO.lt this
        omega
      · rw [if_neg hc] at hN hgc
        exact h.inj b c M N ob' oc hM hN hgb hgc hown hliv hne
  · intro b hb
    rw [Heap.next_push] at hb
    rw [Heap.get_push, if_neg (by omega)]
    exact h.wf b (by omega)

/-- Cells of one's own, or of what came in, are turned. 'w'' differs from w in the one block alone. -/
theorem Rel.write (h : Rel base w0 r H w) {b : Nat} {L : Loc} {ob : AObj} (hb : r b = some L) (hg : H.get b = some ob) (hown : ob.own = true) (ob' : AObj) (w' : World)
    (hbel : Below base w w') (hoth : ∀ k, k ≠ L.B → w'.heap[k]? = w.heap[k]?) (ho : ORel base r L w' ob') : Rel base w0 r (H.set b ob') w' := by
  refine ⟨h.below.trans hbel, Nat.le_trans h.le hbel.size, ?_, ?_, ?_, h.rn⟩
  · intro c M hM
    rw [Heap.get_set]
    by_cases hc : c = b
    · subst hc
      rw [hb] at hM; cases hM
      exact ⟨ob', by simp, ho⟩
    · rw [if_neg hc]
      obtain ⟨oc, hgc, hO⟩ := h.dom c M hM
      refine ⟨oc, hgc, ?_⟩
      by_cases hl : oc.live = true
      · exact hO.of_heap (Ren.le_refl _) (hoth _ (fun e => h.inj b c L M ob oc hb hM hg hgc hown hl (fun e => hc e.symm) e.symm))
      · cases oc <;> first | trivial | exact absurd rfl hl
  · intro c d M N oc od hM hN hgc hgd ho1 hl1 hne
    rw [Heap.get_set] at hgc hgd
    have live_of : ∀ {x : AObj}, x.own = true → x.live = true := fun {x} hx => by cases x <;> first | rfl | cases hx
    by_cases hc : c = b
    · subst hc
      rw [if_neg (fun e => hne e.symm)] at hgd
      exact h.inj c d M N ob od hM hN hg hgd hown hl1 hne
    · rw [if_neg hc] at hgc
      by_cases hd : d = b
      · subst hd
        exact h.inj c d M N oc ob hM hN hgc hg ho1 (live_of hown) hne
      · rw [if_neg hd] at hgd
        exact h.inj c d M N oc od hM hN hgc hgd ho1 hl1 hne
  · intro c hc
    rw [Heap.next_set] at hc
    rw [Heap.get_set]
    split
    · rename_i e; subst e; have := h.wf c hc; rw [hg] at this; cases this
    · exact h.wf c hc

/-- A block dies, and another one takes its place (an append in place). -/
theorem Rel.move (h : Rel base w0 r H w) {b : Nat} {L : Loc} {ob : AObj} (hb : r b = some L) (hg : H.get b = some ob) (hown : ob.own = true) (M : Loc) (hM : M.B = L.B) (ob' : AObj) (w' : World)
    (hown' : ob'.own = true) (hbel : Below base w w') (hoth : ∀ k, k ≠ L.B → w'.heap[k]? = w.heap[k]?) (ho : ORel base (r.add H.next M) M w' ob') :
    Rel base w0 (r.add H.next M) ((H.set b .dead).push ob') w' ∧ Ren.le r (r.add H.next M) := by
  have hf : r H.next = none := h.fresh (Nat.le_refl _)
  have hle : Ren.le r (r.add H.next M) := Ren.le_add hf h.rn
  have hbn : b ≠ H.next := fun e => by rw [e, hf] at hb; cases hb
  have live_of : ∀ {x : AObj}, x.own = true → x.live = true := fun {x} hx => by cases x <;> first | rfl | cases hx
  refine ⟨⟨h.below.trans hbel, Nat.le_trans h.le hbel.size, ?_, ?_, ?_, by rw [Heap.next_push, Heap.next_set]; exact Nat.max_le.2 ⟨by have := h.rn; omega, Nat.le_refl _⟩⟩, hle⟩
  · intro c N hN
    simp only [Ren.add] at hN
    rw [Heap.get_push, Heap.next_set]
    split at hN
    · rename_i e; subst e; cases hN; exact ⟨ob', by simp, ho⟩
    · rename_i e
      rw [if_neg e, Heap.get_set]
      by_cases hc : c = b
      · subst hc; exact ⟨.dead, by simp, trivial⟩
      · rw [if_neg hc]
        obtain ⟨oc, hgc, hO⟩ := h.dom c N hN
        refine ⟨oc, hgc, ?_⟩
        by_cases hl : oc.live = true
        · exact hO.of_heap hle (hoth _ (fun e => h.inj b c L N ob oc hb hN hg hgc hown hl (fun e => hc e.symm) e.symm))
        · cases oc <;> first | trivial | exact absurd rfl hl
  · intro c d N N' oc od hN hN' hgc hgd ho1 hl1 hne
    simp only [Ren.add] at hN hN'
    rw [Heap.get_push, Heap.next_set] at hgc hgd
    by_cases hc : c = H.next
    · subst hc
      rw [if_pos rfl] at hN; cases hN
      have hd : ¬ d = H.next := fun e => hne e.symm
      rw [if_neg hd] at hN' hgd
      rw [Heap.get_set] at hgd
      by_cases hdb : d = b
      · rw [if_pos hdb] at hgd; cases hgd; cases hl1
      · rw [if_neg hdb] at hgd
        rw [hM]
        exact h.inj b d L N' ob od hb hN' hg hgd hown hl1 (fun e => hdb e.symm)
    · rw [if_neg hc] at hN hgc
      rw [Heap.get_set] at hgc
      by_cases hcb : c = b
      · rw [if_pos hcb] at hgc; cases hgc; cases ho1
      · rw [if_neg hcb] at hgc
        by_cases hd : d = H.next
        · subst hd
          rw [if_pos rfl] at hN'; cases hN'
          rw [hM]
          exact h.inj c b N L oc ob hN hb hgc hg ho1 (live_of hown) hcb
        · rw [if_neg hd] at hN' hgd
          rw [Heap.get_set] at hgd
          by_cases hdb : d = b
          · rw [if_pos hdb] at hgd; cases hgd; cases hl1
          · rw [if_neg hdb] at hgd
            exact h.inj c d N N' oc od hN hN' hgc hgd ho1 hl1 hne
  · intro c hc
    rw [Heap.next_push, Heap.next_set] at hc
    rw [Heap.get_push, Heap.next_set, if_neg (by omega), Heap.get_set]
    split
    · rename_i e; subst e; have := h.wf c (by omega); rw [hg] at this; cases this
    · exact h.wf c (by omega)
end
end Go.Abs

/-
  What one operation does on the abstract heap: deterministic, or nothing is said (none).
-/
namespace Go.Abs
noncomputable section
open Go Go.RowKit

inductive ORes where
  | val (v : Value)
  | call (f : FuncId) (args : List Value)
  | round (l : Nat) (args : List Value)
  | defer (f : FuncId) (args : List Value)
  | panic (v : Value)
  | recover

/-- A value that bears no address. -/
def pure0 : Value → Bool
  | .bool _ | .int _ _ | .string _ | .pointer none | .slice none 0 0 | .map none | .nilFunc | .nilIface => true
  | _ => false
def pureV : Value → Bool
  | .agg cs => cs.toList.all pure0
  | .tuple cs => cs.toList.all pure0
  | v => pure0 v

def evA (env : Env) : Operand → Option Value
  | .tmp t => some (env.val t)
  | .const v => if pureV v then some v else none
  | .global _ => none
  | .func f => some (.func (.func f) #[] #[])

def oneC (v : Value) : Bool := match v with | .agg _ | .tuple _ => false | _ => true

def isAggD : TypeDesc → Bool
  | .struct _ | .array _ _ => true
  | _ => false

/-- A row of new cells. -/
def newA (H : Heap) (es : Nat) (cs : List Value) : Option (Value × Heap) := some (.pointer (some ⟨H.next, 0, none⟩), H.push (.cells true es cs))

def loadA (P : Program) (t : TypeId) (H : Heap) (b off : Nat) : Option Value :=
  match H.get b, P.info? t, P.underlying t with
  | some (.cells _ _ cs), some i, some d => if isAggD d then (if off + i.size ≤ cs.length then some (.agg ((cs.drop off).take i.size).toArray) else none) else cs[off]?
  | _, _, _ => none

def putL (cs : List Value) (off : Nat) (vs : List Value) : List Value := cs.take off ++ (vs ++ cs.drop (off + vs.length))

def storeA (P : Program) (t : TypeId) (H : Heap) (b off : Nat) (v : Value) : Option Heap :=
  match H.get b, P.info? t with
  | some (.cells true es cs), some i =>
    if v.cells.size = i.size ∧ off + i.size ≤ cs.length ∧ v.cells.toList.all oneC = true then some (H.set b (.cells true es (putL cs off v.cells.toList))) else none
  | _, _ => none

def fieldA (P : Program) (s : TypeId) (f : Nat) : Option (Nat × TypeId × Nat) :=
  match P.underlying s with
  | some (.struct fields) => match fields[f]? with
    | some fd => match P.info? fd.type with
      | some i => some (fd.offset, fd.type, i.size)
      | none => none
    | none => none
  | _ => none

def partA (P : Program) (t : TypeId) (cs : Array Value) (off : Nat) : Option Value :=
  match P.underlying t, P.info? t with
  | some d, some i => if isAggD d then some (.agg (cs.extract off (off + i.size))) else cs[off]?
  | _, _ => none

def elemA (P : Program) (t : TypeId) : Option (TypeId × TypeInfo) :=
  match P.underlying t with
  | some (.slice e) => match P.info? e with
    | some i => some (e, i)
    | none => none
  | _ => none

def indexAddrA (P : Program) (t : TypeId) (x : Value) (n : Int) : Option Value :=
  match P.underlying t, x with
  | some (.slice e), .slice (some a) len _ => match P.info? e with
    | some i => if 0 ≤ n ∧ n < len then some (.pointer (some ⟨a.block, a.off + n.toNat * i.size, none⟩)) else none
    | none => none
  | some (.array len e), .pointer (some a) => match P.info? e with
    | some i => if 0 ≤ n ∧ n < len then some (.pointer (some ⟨a.block, a.off + n.toNat * i.size, none⟩)) else none
    | none => none
  | _, _ => none

def zeroA (P : Program) (t : TypeId) : Option (Value × Nat) :=
  match P.info? t with
  | some i => match i.zero with
    | some z => if pureV z then some (z, i.size) else none
    | none => none
  | none => none

def madeL (z : List Value) (n : Nat) : List Value := (List.range n).map fun j => z.getD (j % z.length) undef

def makeSliceA (P : Program) (t : TypeId) (l c : Int) (H : Heap) : Option (Value × Heap) :=
  match elemA P t with
  | some (e, i) => match zeroA P e with
    | some (z, _) =>
      if 0 ≤ l ∧ l ≤ c ∧ c ≤ 4294967296 ∧ i.bytes ≤ 65536 ∧ 0 < i.size ∧ z.cells.size = i.size then
        some (.slice (some ⟨H.next, 0, none⟩) l.toNat c.toNat, H.push (.cells true i.size (madeL z.cells.toList (c.toNat * i.size))))
      else none
    | none => none
  | none => none

def buildSliceA (P : Program) (t : TypeId) (len : Nat) (parts : List (Nat × Value)) (H : Heap) : Option (Value × Heap) :=
  match elemA P t with
  | some (e, i) => match zeroA P e with
    | some (z, _) =>
      if len * i.size ≤ 65536 ∧ 0 < i.size ∧ z.cells.size = i.size then
        match Instr.fill (fun k => some (k * i.size, i.size)) (madeL z.cells.toList (len * i.size)).toArray parts with
        | some cells => some (.slice (some ⟨H.next, 0, none⟩) len len, H.push (.cells true i.size cells.toList))
        | none => none
      else none
    | none => none
  | none => none

/-- How many there are to slice, as far as is known. -/
def capA (n c : Nat) : Nat := if c < BIG then c else n

/-- x[lo:hi:mx]. -/
def sliceA (P : Program) (t : TypeId) (x : Value) (lo hi mx : Option Int) (H : Heap) : Option Value :=
  match elemA P t, x with
  | some (_, i), .slice (some a) n c =>
    match mx with
    | some m =>
      if hi.isSome = true ∧ 0 ≤ lo.getD 0 ∧ lo.getD 0 ≤ hi.getD n ∧ hi.getD n ≤ m ∧ m ≤ (capA n c : Nat) ∧ m < (BIG : Nat) then
        some (.slice (some (if m = lo.getD 0 then a else ⟨a.block, a.off + (lo.getD 0).toNat * i.size, none⟩)) (hi.getD n - lo.getD 0).toNat (m - lo.getD 0).toNat)
      else none
    | none =>
      if 0 ≤ lo.getD 0 ∧ lo.getD 0 ≤ hi.getD n ∧ hi.getD n ≤ (capA n c : Nat) then
        if c < BIG then some (.slice (some (if (c : Int) = lo.getD 0 then a else ⟨a.block, a.off + (lo.getD 0).toNat * i.size, none⟩)) (hi.getD n - lo.getD 0).toNat (c - lo.getD 0).toNat)
        else match H.get a.block with
          | some (.cells _ es _) => if es = i.size then some (.slice (some ⟨a.block, a.off + (lo.getD 0).toNat * i.size, none⟩) (hi.getD n - lo.getD 0).toNat BIG) else none
          | _ => none
      else none
  | some _, .slice none 0 0 =>
    if lo.getD 0 = 0 ∧ hi.getD 0 = 0 ∧ mx.getD 0 = 0 ∧ (mx.isSome = true → hi.isSome = true) then some (.slice none 0 0) else none
  | _, _ => none

/-- The cells of a slice. -/
def cellsA (H : Heap) (size : Nat) : Value → Option (List Value)
  | .slice none 0 0 => some []
  | .slice (some ⟨b, off, none⟩) n _ => match H.get b with
    | some (.cells _ _ cs) => if off + n * size ≤ cs.length then some ((cs.drop off).take (n * size)) else none
    | _ => none
  | .slice (some ⟨_, _, some _⟩) 0 0 => some []
  | _ => none

def lenA : Value → Option Nat
  | .slice _ n _ => some n
  | _ => none

def appendA (P : Program) (t : TypeId) (s x : Value) (H : Heap) : Option (Value × Heap) :=
  match elemA P t with
  | some (e, i) => match zeroA P e, cellsA H i.size s, cellsA H i.size x, lenA s, lenA x with
    | some (z, _), some olds, some news, some n, some m =>
      if i.bytes ≤ 65536 ∧ n + m ≤ 1073741824 ∧ 0 < i.size ∧ z.cells.size = i.size ∧ news.all oneC = true then
        if m = 0 then some (s, H) else
        match s with
        | .slice (some a) _ c =>
          if c < BIG then
            (if n + m ≤ c then match H.get a.block with
              | some (.cells true es cs) =>
                if a.off + (n + m) * i.size ≤ cs.length then some (.slice (some a) (n + m) c, H.set a.block (.cells true es (putL cs (a.off + n * i.size) news))) else none
              | _ => none
            else some (.slice (some ⟨H.next, 0, none⟩) (n + m) BIG, H.push (.cells true i.size (olds ++ news))))
          else match H.get a.block with
            | some (.cells true es _) => if es = i.size then some (.slice (some ⟨H.next, 0, none⟩) (n + m) BIG, (H.set a.block .dead).push (.cells true i.size (olds ++ news))) else none
            | _ => none
        | _ => some (.slice (some ⟨H.next, 0, none⟩) (n + m) BIG, H.push (.cells true i.size (olds ++ news)))
      else none
    | _, _, _, _, _ => none
  | none => none

def intBinA (op : BinOp) (k : IntKind) (a b : Int) : Option Value :=
  match op with
  | .add => some (.int k (k.wrap (a + b)))
  | .sub => some (.int k (k.wrap (a - b)))
  | .mul => some (.int k (k.wrap (a * b)))
  | .quo => if b = 0 then none else some (.int k (k.wrap (a.tdiv b)))
  | .rem => if b = 0 then none else some (.int k (a.tmod b))
  | .eql => some (.bool (a == b))
  | .neq => some (.bool (a != b))
  | .lss => some (.bool (a < b))
  | .leq => some (.bool (a ≤ b))
  | .gtr => some (.bool (a > b))
  | .geq => some (.bool (a ≥ b))
  | _ => none

/-- '==' of values that are no whole numbers. -/
def eqA (P : Program) (t : TypeId) (x y : Value) : Option Bool :=
  match P.underlying t, x, y with
  | some .bool, .bool a, .bool b => some (a == b)
  | some (.pointer _), .pointer none, .pointer b => some b.isNone
  | some (.pointer _), .pointer (some _), .pointer none => some false
  | some (.slice _), .slice none _ _, .slice b _ _ => some b.isNone
  | some (.slice _), .slice (some _) _ _, .slice none _ _ => some false
  | some (.map _ _), .map none, .map b => some b.isNone
  | some (.map _ _), .map (some _), .map none => some false
  | some (.func _ _ _), .nilFunc, .nilFunc => some true
  | some (.func _ _ _), .nilFunc, .func _ _ _ => some false
  | some (.func _ _ _), .func _ _ _, .nilFunc => some false
  | some (.interface _), .nilIface, .iface _ _ => some false
  | some (.interface _), .iface _ _, .nilIface => some false
  | _, _, _ => none

def binA (P : Program) (op : BinOp) (t : TypeId) (xo yo : Operand) (x y : Value) : Option Value :=
  match x, y with
  | .int k a, .int k' b => if k = k' then intBinA op k a b else none
  | .string a, .string b => match op with
    | .eql => some (.bool (a.toList == b.toList))
    | .neq => some (.bool (!(a.toList == b.toList)))
    | _ => none
  | .nilIface, .nilIface => if Region.isConst xo || Region.isConst yo then
      (match op, P.underlying t with
       | .eql, some (.interface _) => some (.bool true)
       | .neq, some (.interface _) => some (.bool false)
       | _, _ => none) else none
  | x, y => match op with
    | .eql => (eqA P t x y).map .bool
    | .neq => (eqA P t x y).map fun b => .bool (!b)
    | _ => none

def findA (n : Int) : List (Int × Value) → Nat → Option (Nat × Value)
  | [], _ => none
  | (m, v) :: es, i => if n == m then some (i, v) else findA n es (i + 1)

def mapElemA (P : Program) (t : TypeId) : Option (IntKind × TypeId) :=
  match P.underlying t with
  | some (.map k e) => match P.underlying k with
    | some (.int kind) => some (kind, e)
    | _ => none
  | _ => none

def entsA (H : Heap) (m : Option Nat) (kind : IntKind) : Option (List (Int × Value)) :=
  match m with
  | none => some []
  | some b => match H.get b with
    | some (.amap k' es) => if k' = kind then some es else none
    | _ => none

def lookupA (P : Program) (t : TypeId) (H : Heap) (m : Option Nat) (k : IntKind) (n : Int) (ok : Bool) : Option Value :=
  match mapElemA P t with
  | some (kind, e) => if k = kind then
      match entsA H m kind with
      | some es => match findA n es 0 with
        | some (_, v) => some (if ok then .tuple #[v, .bool true] else v)
        | none => match zeroA P e with
          | some (z, _) => some (if ok then .tuple #[z, .bool false] else z)
          | none => none
      | none => none
    else none
  | none => none

def updateA (P : Program) (t : TypeId) (H : Heap) (b : Nat) (k : IntKind) (n : Int) (v : Value) : Option Heap :=
  match mapElemA P t, H.get b with
  | some (kind, _), some (.amap k' es) => if k = kind ∧ k' = kind then
      match findA n es 0 with
      | some (i, _) => some (H.set b (.amap kind (es.set i (n, v))))
      | none => some (H.set b (.amap kind (es ++ [(n, v)])))
    else none
  | _, _ => none

def deleteA (P : Program) (t : TypeId) (H : Heap) (b : Nat) (k : IntKind) (n : Int) : Option Heap :=
  match mapElemA P t, H.get b with
  | some (kind, _), some (.amap k' es) => if k = kind ∧ k' = kind then
      match findA n es 0 with
      | some (i, _) => some (H.set b (.amap kind (es.eraseIdx i)))
      | none => some (H.set b (.amap kind es))
    else none
  | _, _ => none

def typeAssertA (P : Program) (x : Value) (asserted : TypeId) (ok : Bool) : Option Value :=
  match P.underlying asserted, x with
  | some (.interface _), _ => none
  | some _, .iface t v => if t = asserted then some (if ok then .tuple #[v, .bool true] else v)
      else if ok then match zeroA P asserted with | some (z, _) => some (.tuple #[z, .bool false]) | none => none else none
  | some _, .nilIface => if ok then match zeroA P asserted with | some (z, _) => some (.tuple #[z, .bool false]) | none => none else none
  | _, _ => none

def foldMin (k : IntKind) : Int → List Value → Option Int
  | a, [] => some a
  | a, .int k' b :: r => if k = k' then foldMin k (if b < a then b else a) r else none
  | _, _ => none
def foldMax (k : IntKind) : Int → List Value → Option Int
  | a, [] => some a
  | a, .int k' b :: r => if k = k' then foldMax k (if b > a then b else a) r else none
  | _, _ => none

def builtinA (P : Program) (b : Builtin) (argTypes : Array TypeId) (args : List Value) (H : Heap) : Option (ORes × Heap) :=
  match b, argTypes.toList, args with
  | .len, [t], [x] => match P.underlying t, x with
    | some (.slice _), .slice _ n _ => some (.val (.int .i64 n), H)
    | some .string, .string s => some (.val (.int .i64 s.size), H)
    | some (.array n _), _ => some (.val (.int .i64 n), H)
    | some (.map _ _), .map none => some (.val (.int .i64 0), H)
    | some (.map _ _), .map (some b) => match H.get b with
      | some (.amap _ es) => some (.val (.int .i64 es.length), H)
      | _ => none
    | _, _ => none
  | .cap, [t], [x] => match P.underlying t, x with
    | some (.slice _), .slice _ _ c => if c < BIG then some (.val (.int .i64 c), H) else none
    | _, _ => none
  | .append, [t, t'], [s, x] => if t = t' then (appendA P t s x H).map fun (v, H') => (.val v, H') else none
  | .min, _, .int k a :: r => (foldMin k a r).map fun n => (.val (.int k n), H)
  | .max, _, .int k a :: r => (foldMax k a r).map fun n => (.val (.int k n), H)
  | .delete, [t, _], [.map (some b), .int k n] => (deleteA P t H b k n).map fun H' => (.val (.tuple #[]), H')
  | .recover, _, [] => some (.recover, H)
  | _, _, _ => none

def bodied (P : Program) (f : FuncId) : Bool :=
  match P.funcs[f]? with
  | some fn => fn.name != "runtime.NumGoroutine" && fn.body.isSome
  | none => false

def callA (P : Program) (f : Value) (args : List Value) (H : Heap) : Option ORes :=
  match f with
  | .func (.func g) first captured => if bodied P g then some (.call g (first.toList ++ args ++ captured.toList)) else none
  | .func (.yield l) _ _ => match H.get l with
    | some (.loop c) => if args.length = c.params.size then some (.round l args) else none
    | _ => none
  | _ => none

def partsA (env : Env) (parts : Array (Nat × Operand)) : Option (List (Nat × Value)) := parts.toList.mapM fun (i, x) => (evA env x).map fun v => (i, v)

def optA (env : Env) : Option Operand → Option (Option Int)
  | none => some none
  | some x => match evA env x with
    | some (.int _ n) => some (some n)
    | _ => none

def opA (P : Program) (env : Env) (o : Oper) (H : Heap) : Option (ORes × Heap) :=
  match o.op with
  | .move x | .assign x => (evA env x).map fun v => (.val v, H)
  | .pick c a b => match evA env c with
    | some (.bool t) => (evA env (if t then a else b)).map fun v => (.val v, H)
    | _ => none
  | .alloc t => match zeroA P t with
    | some (z, _) => if z.cells.toList.all oneC = true then (newA H z.cells.size z.cells.toList).map fun (v, H') => (.val v, H') else none
    | none => none
  | .box _ x => match evA env x with
    | some v => if v.cells.toList.all oneC = true then (newA H v.cells.size v.cells.toList).map fun (v, H') => (.val v, H') else none
    | none => none
  | .build t parts => match partsA env parts, zeroA P t with
    | some ps, some _ => (P.built t ps).map fun cs => (.val (.agg cs), H)
    | _, _ => none
  | .buildSlice t len parts => match partsA env parts with
    | some ps => (buildSliceA P t len ps H).map fun (v, H') => (.val v, H')
    | none => none
  | .load t a => match evA env a with
    | some (.pointer (some p)) => (loadA P t H p.block p.off).map fun v => (.val v, H)
    | _ => none
  | .store t a x => match evA env a, evA env x with
    | some (.pointer (some p)), some v => (storeA P t H p.block p.off v).map fun H' => (.val undef, H')
    | _, _ => none
  | .nilCheck x => match evA env x with
    | some (.pointer (some p)) => some (.val (.pointer (some p)), H)
    | some (.func (.func f) fs cs) => some (.val (.func (.func f) fs cs), H)
    | some (.func (.yield f) fs cs) => some (.val (.func (.yield f) fs cs), H)
    | _ => none
  | .binOp op t x y _ => match evA env x, evA env y with
    | some a, some b => (binA P op t x y a b).map fun v => (.val v, H)
    | _, _ => none
  | .unOp op _ x => match op, evA env x with
    | .not, some (.bool b) => some (.val (.bool (!b)), H)
    | .neg, some (.int k n) => some (.val (.int k (k.wrap (0 - n))), H)
    | _, _ => none
  | .convert s d x => match P.underlying s, P.underlying d, evA env x with
    | some _, some (.int k), some (.int _ n) => some (.val (.int k (k.wrap n)), H)
    | some .string, some .string, some (.string b) => some (.val (.string b), H)
    | _, _, _ => none
  | .makeInterface t x => match P.underlying t, evA env x with
    | some (.interface _), _ => none
    | some _, some v => some (.val (.iface t v), H)
    | _, _ => none
  | .makeFunc (.func f) first captured => match first.toList.mapM (evA env), captured.toList.mapM (evA env) with
    | some xs, some ys => some (.val (.func (.func f) xs.toArray ys.toArray), H)
    | _, _ => none
  | .makeMap t none => match mapElemA P t with
    | some (k, _) => some (.val (.map (some H.next)), H.push (.amap k []))
    | none => none
  | .makeMap t (some x) => match mapElemA P t, evA env x with
    | some (k, _), some (.int _ _) => some (.val (.map (some H.next)), H.push (.amap k []))
    | _, _ => none
  | .makeSlice t l c => match evA env l, evA env c with
    | some (.int _ l), some (.int _ c) => (makeSliceA P t l c H).map fun (v, H') => (.val v, H')
    | _, _ => none
  | .slice t x lo hi mx => match evA env x, optA env lo, optA env hi, optA env mx with
    | some v, some l, some h, some m => (sliceA P t v l h m H).map fun v => (.val v, H)
    | _, _, _, _ => none
  | .fieldAddr s x f => match evA env x, fieldA P s f with
    | some (.pointer (some p)), some (off, _, size) => if size = 0 then none else some (.val (.pointer (some ⟨p.block, p.off + off, none⟩)), H)
    | _, _ => none
  | .field s x f => match evA env x, fieldA P s f with
    | some (.agg cs), some (off, t, _) => (partA P t cs off).map fun v => (.val v, H)
    | _, _ => none
  | .indexAddr t x ix => match evA env x, evA env ix with
    | some v, some (.int _ n) => (indexAddrA P t v n).map fun v => (.val v, H)
    | _, _ => none
  | .index t x ix => match P.underlying t, evA env x, evA env ix with
    | some (.array len e), some (.agg cs), some (.int _ n) => match P.info? e with
      | some i => if 0 ≤ n ∧ n < len then (partA P e cs (n.toNat * i.size)).map fun v => (.val v, H) else none
      | none => none
    | _, _, _ => none
  | .lookup t x ix ok => match evA env x, evA env ix with
    | some (.map m), some (.int k n) => (lookupA P t H m k n ok).map fun v => (.val v, H)
    | _, _ => none
  | .mapUpdate t m k x | .insert t m k x => match evA env m, evA env k, evA env x with
    | some (.map (some b)), some (.int kd n), some v => (updateA P t H b kd n v).map fun H' => (.val undef, H')
    | _, _, _ => none
  | .typeAssert x _ asserted ok => match evA env x with
    | some v => (typeAssertA P v asserted ok).map fun v => (.val v, H)
    | none => none
  | .extract t ix => match evA env t with
    | some (.tuple vs) => (vs[ix]?).map fun v => (.val v, H)
    | _ => none
  | .call c => match c.args.toList.mapM (evA env) with
    | some args => match c.callee with
      | .builtin b => builtinA P b c.argTypes args H
      | .value f => match evA env f with
        | some fv => (callA P fv args H).map fun r => (r, H)
        | none => none
      | _ => none
    | none => none
  | .defer c => match c.callee, c.args.toList.mapM (evA env) with
    | .value f, some args => match evA env f with
      | some (.func (.func g) first captured) => if bodied P g then some (.defer g (first.toList ++ args ++ captured.toList), H) else none
      | _ => none
    | _, _ => none
  | .panic x => match evA env x with
    | some (.iface t v) => some (.panic (.iface t v), H)
    | _ => none
  | _ => none
end
end Go.Abs

/-
  What one operation does on the abstract heap it does in the model's world: (1) values, cells, reading.
-/
namespace Go.Abs
noncomputable section
open Go Go.RowKit
set_option linter.unusedVariables false
set_option linter.unusedSimpArgs false

/-- Of a program's types: the zero values bear no addresses, and have their type's size. -/
def TypesOk (P : Program) : Prop := ∀ t i z, P.info? t = some i → i.zero = some z → z.cells.size = i.size

theorem pure0_rel {v : Value} (h : pure0 v = true) (r : Ren) : VRel r v v := by
  cases v with
  | bool b => exact .bool b
  | int k n => exact .int k n
  | string s => exact .string s
  | pointer a => cases a with
    | none => exact .ptrNil
    | some a => cases h
  | slice a n c =>
    cases a with
    | some a => cases h
    | none =>
      cases n with
      | succ n => cases h
      | zero => cases c with
        | succ c => cases h
        | zero => exact .sliceNil
  | map m => cases m with
    | none => exact .mapNil
    | some a => cases h
  | nilFunc => exact .nilFunc
  | nilIface => exact .nilIface
  | float k b => cases h
  | complex k a b => cases h
  | chan c => cases h
  | func f a b => cases h
  | iface t v => cases h
  | agg a => cases h
  | tuple a => cases h

theorem all0_rel {cs : Array Value} (h : cs.toList.all pure0 = true) (r : Ren) (i : Nat) (x y : Value) (hx : cs[i]? = some x) (hy : cs[i]? = some y) : VRel r x y := by
  rw [hx] at hy; cases hy
  rw [List.all_eq_true] at h
  refine pure0_rel (h x ?_) r
  have := Array.mem_of_getElem? hx
  simpa using this

theorem pureV_rel {v : Value} (h : pureV v = true) (r : Ren) : VRel r v v := by
  cases v with
  | agg cs => exact .agg rfl (all0_rel h r)
  | tuple cs => exact .tuple rfl (all0_rel h r)
  | bool b => exact .bool b
  | int k n => exact .int k n
  | string s => exact .string s
  | pointer a => exact pure0_rel (v := .pointer a) h r
  | slice a n c => exact pure0_rel (v := .slice a n c) h r
  | map m => exact pure0_rel (v := .map m) h r
  | nilFunc => exact .nilFunc
  | nilIface => exact .nilIface
  | float k b => cases h
  | complex k a b => cases h
  | chan c => cases h
  | func f a b => cases h
  | iface t v => cases h

/-- The slots of a frame. -/
def SRel (r : Ren) (env : Env) (ρ : Operand → Value) : Prop := ∀ x v, evA env x = some v → VRel r v (ρ x)

theorem ERel.srel {r : Ren} {env : Env} {a : Act} (h : ERel r env a.tmps) : SRel r env a.eval := by
  intro x v hx
  cases x with
  | tmp t => simp only [evA, Option.some.injEq] at hx; subst hx; exact h t
  | const c =>
    simp only [evA] at hx
    split at hx
    · rename_i hp; cases hx; exact pureV_rel hp r
    · cases hx
  | global g => cases hx
  | func f => simp only [evA, Option.some.injEq] at hx; subst hx; exact .func f rfl (fun i x y h => by simp at h) rfl (fun i x y h => by simp at h)

theorem SRel.mono {r r' : Ren} {env : Env} {ρ : Operand → Value} (h : SRel r env ρ) (hr : Ren.le r r') : SRel r' env ρ := fun x v hx => (h x v hx).mono hr

theorem VRel.oneC {r : Ren} {x y : Value} (h : VRel r x y) : oneC x = oneC y := by cases h <;> rfl
theorem oneC_eq (v : Value) : oneC v = v.oneCell' := by cases v <;> rfl

theorem VRel.cells {r : Ren} {x y : Value} (h : VRel r x y) : LRel r x.cells.toList y.cells.toList := by
  have one : ∀ {a b : Value}, VRel r a b → a.cells = #[a] → b.cells = #[b] → LRel r a.cells.toList b.cells.toList := fun h ha hb => by
    rw [ha, hb]; exact LRel.cons h (LRel.nil r)
  cases h with
  | agg h1 h2 => exact ⟨by simpa [Value.cells] using h1, fun i a b ha hb => h2 i a b (by simpa [Value.cells] using ha) (by simpa [Value.cells] using hb)⟩
  | bool b => exact one (.bool b) rfl rfl
  | int k n => exact one (.int k n) rfl rfl
  | string s => exact one (.string s) rfl rfl
  | ptrNil => exact one .ptrNil rfl rfl
  | ptr h => exact one (.ptr h) rfl rfl
  | sliceNil => exact one .sliceNil rfl rfl
  | slice h ho hc => exact one (.slice h ho hc) rfl rfl
  | sliceZ a => exact one (.sliceZ a) rfl rfl
  | mapNil => exact one .mapNil rfl rfl
  | map h => exact one (.map h) rfl rfl
  | func f h1 h2 h3 h4 => exact one (.func f h1 h2 h3 h4) rfl rfl
  | yield h => exact one (.yield h) rfl rfl
  | nilFunc => exact one .nilFunc rfl rfl
  | nilIface => exact one .nilIface rfl rfl
  | iface t h => exact one (.iface t h) rfl rfl
  | tuple h1 h2 => exact one (.tuple h1 h2) rfl rfl

theorem LRel.all_oneC {r : Ren} {xs ys : List Value} (h : LRel r xs ys) (hx : xs.all Abs.oneC = true) : ∀ v ∈ ys, v.oneCell' = true := by
  intro v hv
  obtain ⟨i, hi, rfl⟩ := List.mem_iff_getElem.1 hv
  have hj : i < xs.length := h.1 ▸ hi
  have := (h.2 i xs[i] ys[i] (List.getElem?_eq_getElem hj) (List.getElem?_eq_getElem hi)).oneC
  rw [← oneC_eq, ← this]
  rw [List.all_eq_true] at hx
  exact hx _ (List.getElem_mem hj)

theorem LRel.agg {r : Ren} {xs ys : List Value} (h : LRel r xs ys) : VRel r (.agg xs.toArray) (.agg ys.toArray) :=
  .agg (by simpa using h.1) (fun i a b ha hb => h.2 i a b (by simpa using ha) (by simpa using hb))

theorem addr_add (B o n : Nat) : (⟨B, o, none⟩ : Addr).add n = ⟨B, o + n, none⟩ := by unfold Addr.add; split <;> simp_all

variable {P : Program} {base : Nat} {w0 w : World} {r : Ren} {H : Heap}

/-- A block of cells, as the world has it. -/
theorem Rel.cells (h : Rel base w0 r H w) {b : Nat} {L : Loc} {own : Bool} {es : Nat} {cs : List Value} (hb : r b = some L) (hg : H.get b = some (.cells own es cs)) :
    ∃ C e fz, w.heap[L.B]? = some (.cells C e fz) ∧ L.es = es ∧ (own = true → fz = (0, 0) ∧ base ≤ L.B ∧ L.o + L.K ≤ C.size) ∧ L.o + cs.length ≤ C.size ∧
      (∀ (i : Nat) v, cs[i]? = some v → ∃ v', C[L.o + i]? = some v' ∧ VRel r v v') := by
  obtain ⟨ob, hgo, hO⟩ := h.dom b L hb
  rw [hg] at hgo; cases hgo
  exact hO

/-- What cells read as: a list in the world beside the abstract one. -/
theorem Rel.read (h : Rel base w0 r H w) {b : Nat} {L : Loc} {own : Bool} {es : Nat} {cs : List Value} (hb : r b = some L) (hg : H.get b = some (.cells own es cs)) (off n : Nat) (hn : off + n ≤ cs.length) :
    ∃ vs, LRel r ((cs.drop off).take n) vs ∧ vs.length = n ∧ ∀ (j : Nat) v, vs[j]? = some v → w.cell? ⟨L.B, L.o + off + j, none⟩ = some v := by
  obtain ⟨C, e, fz, hC, _, _, hlen, hcs⟩ := h.cells hb hg
  refine ⟨(C.toList.drop (L.o + off)).take n, ⟨?_, ?_⟩, ?_, ?_⟩
  · simp; omega
  · intro i x y hx hy
    rw [List.getElem?_take] at hx hy
    split at hx
    · rename_i hi
      rw [if_pos hi] at hy
      rw [List.getElem?_drop] at hx hy
      obtain ⟨v', hv', hr⟩ := hcs _ _ hx
      rw [show L.o + off + i = L.o + (off + i) by omega] at hy
      rw [Array.getElem?_toList, hv'] at hy
      cases hy; exact hr
    · cases hx
  · simp; omega
  · intro j v hv
    rw [List.getElem?_take] at hv
    split at hv
    · rw [List.getElem?_drop, Array.getElem?_toList] at hv
      rw [cell_of_row w L.B _ C e fz hC]
      exact hv
    · cases hv

theorem run_isAgg {t : TypeId} {d : TypeDesc} (hd : P.underlying t = some d) (w : World) : (isAgg t).run P w = .ok (isAggD d) w := by
  simp only [isAgg, Sem.run_bind, run_underlying hd, Result.andThen_ok]
  cases d <;> rfl

theorem run_sizeOf {t : TypeId} {i : TypeInfo} (hi : P.info? t = some i) (w : World) : (sizeOf t).run P w = .ok i.size w := by
  simp [sizeOf, typeInfo, hi]

theorem loadA_sound {t : TypeId} {b off : Nat} {v : Value} {L : Loc} (h : loadA P t H b off = some v) (hR : Rel base w0 r H w) (hb : r b = some L) :
    ∃ v', (loadVar t ⟨L.B, L.o + off, none⟩).run P w = .ok v' w ∧ VRel r v v' := by
  unfold loadA at h
  split at h
  · rename_i own es cs i d hg hi hd
    obtain ⟨C, e, fz, hC, _, _, hlen, hcs⟩ := hR.cells hb hg
    cases ha : isAggD d with
    | true =>
      rw [ha] at h
      simp only [if_true] at h
      split at h
      · rename_i hn
        cases h
        obtain ⟨vs, hrel, hl, hread⟩ := hR.read hb hg off i.size hn
        refine ⟨.agg vs.toArray, ?_, hrel.agg⟩
        have := run_loadCells_list (P := P) w ⟨L.B, L.o + off, none⟩ vs (fun j v hv => by rw [addr_add]; exact hread j v hv)
        simp only [loadVar, Sem.run_bind, run_isAgg hd, Result.andThen_ok, ha, if_true, run_sizeOf hi]
        rw [← hl]
        simp [this]
      · cases h
    | false =>
      rw [ha] at h
      simp only [Bool.false_eq_true, if_false] at h
      obtain ⟨v', hv', hr'⟩ := hcs _ _ h
      refine ⟨v', ?_, hr'⟩
      simp only [loadVar, Sem.run_bind, run_isAgg hd, Result.andThen_ok, ha, Bool.false_eq_true, if_false]
      have : w.cell? ⟨L.B, L.o + off, none⟩ = some v' := by rw [cell_of_row w L.B _ C e fz hC]; exact hv'
      simp [this]
  · cases h

/-- Cells stored into a row of one's own, from a place on. -/
theorem run_storeCells_in (P : Program) (g : Nat) (t : TypeId) (off : Nat) : ∀ (vs : List Value) (i : Nat) (cur : Array Value) (w : World), w.heap[g]? = some (.cells cur t (0, 0)) → off + i + vs.length ≤ cur.size → (∀ v ∈ vs, v.oneCell' = true) →
    ∃ w', (storeCells ⟨g, off, none⟩ vs i).run P w = .ok () w' ∧ w'.heap[g]? = some (.cells (cur.toList.take (off + i) ++ vs ++ cur.toList.drop (off + i + vs.length)).toArray t (0, 0)) ∧ (∀ k, k ≠ g → w'.heap[k]? = w.heap[k]?) ∧ (∀ B, B ≤ g → Below B w w')
  | [], i, cur, w, hg, hl, _ => by
    refine ⟨w, rfl, ?_, fun _ _ => rfl, fun B _ => Below.refl B w⟩
    rw [hg]; simp
  | v :: vs, i, cur, w, hg, hl, h1 => by
    simp only [List.length_cons] at hl
    have hcell : w.cell? ⟨g, off + i, none⟩ = some cur[off + i] := by rw [cell_of_row w g _ cur t _ hg, Array.getElem?_eq_getElem (by omega)]
    have hfz : w.frozen? ⟨g, off + i, none⟩ = false := frozen_of_row w g _ cur t hg
    have hs : (store ((⟨g, off, none⟩ : Addr).add i) v).run P w = .ok () (w.setCell ⟨g, off + i, none⟩ v) := by
      rw [addr_add, run_store P w _ v _ (h1 v (by simp))]
      simp [hcell, hfz]
    obtain ⟨w', hw', hg', ho', hb'⟩ := run_storeCells_in P g t off vs (i + 1) (cur.setIfInBounds (off + i) v) (w.setCell ⟨g, off + i, none⟩ v) (heap_setCell_same w g _ cur t v hg) (by simp; omega) (fun u hu => h1 u (by simp [hu]))
    refine ⟨w', ?_, ?_, ?_, ?_⟩
    · simp only [storeCells, Sem.run_bind, hs, Result.andThen_ok, hw']
    · rw [hg']
      congr 3
      apply List.ext_getElem?
      intro j
      simp only [Array.toList_setIfInBounds, List.getElem?_append, List.length_append, List.length_take, List.length_set, Array.length_toList, List.getElem?_take, List.getElem?_drop, List.getElem?_set, List.length_cons]
      rcases Nat.lt_trichotomy j (off + i) with hj | hj | hj
      · simp only [show j < min (off + i) cur.size + (vs.length + 1) by omega, show j < min (off + (i + 1)) cur.size + vs.length by omega, show j < min (off + i) cur.size by omega, show j < min (off + (i + 1)) cur.size by omega, if_true, show j < off + (i + 1) by omega, show j < off + i by omega, show ¬ (off + i = j) by omega, if_false]
      · subst hj
        simp only [show off + i < min (off + i) cur.size + (vs.length + 1) by omega, show off + i < min (off + (i + 1)) cur.size + vs.length by omega, show ¬ (off + i < min (off + i) cur.size) by omega, show off + i < min (off + (i + 1)) cur.size by omega, if_true, if_false, show off + i < off + (i + 1) by omega, show off + i < cur.size by omega]
        simp [show min (off + i) cur.size = off + i by omega]
      · by_cases hk : j < off + i + (vs.length + 1)
        · simp only [show j < min (off + i) cur.size + (vs.length + 1) by omega, show j < min (off + (i + 1)) cur.size + vs.length by omega, show ¬ (j < min (off + i) cur.size) by omega, show ¬ (j < min (off + (i + 1)) cur.size) by omega, if_true, if_false]
          rw [show j - min (off + i) cur.size = (j - min (off + (i + 1)) cur.size) + 1 by omega, List.getElem?_cons_succ]
        · simp only [show ¬ (j < min (off + i) cur.size + (vs.length + 1)) by omega, show ¬ (j < min (off + (i + 1)) cur.size + vs.length) by omega, if_false]
          rw [if_neg (by omega)]
          congr 1
          omega
    · intro k hk
      rw [ho' k hk]
      exact heap_setCell_other w _ k v hk
    · intro B hB
      exact ((Below.refl B w).setCell (p := ⟨g, off + i, none⟩) hB v).trans (hb' B hB)

theorem putL_length (cs : List Value) (off : Nat) (vs : List Value) (h : off + vs.length ≤ cs.length) : (putL cs off vs).length = cs.length := by
  simp [putL]; omega

theorem putL_get (cs : List Value) (off : Nat) (vs : List Value) (h : off + vs.length ≤ cs.length) (i : Nat) :
    (putL cs off vs)[i]? = if i < off then cs[i]? else if i < off + vs.length then vs[i - off]? else cs[i]? := by
  unfold putL
  by_cases h1 : i < off
  · rw [if_pos h1, List.getElem?_append_left (by simp; omega), List.getElem?_take, if_pos h1]
  · rw [if_neg h1, List.getElem?_append_right (by simp; omega)]
    simp only [List.length_take, show min off cs.length = off by omega]
    by_cases h2 : i < off + vs.length
    · rw [if_pos h2, List.getElem?_append_left (by omega)]
    · rw [if_neg h2, List.getElem?_append_right (by omega), List.getElem?_drop]
      congr 1; omega

/-- Cells stored into a known block of one's own. -/
theorem Rel.stored (hR : Rel base w0 r H w) {b : Nat} {L : Loc} {es : Nat} {cs : List Value} (hb : r b = some L) (hg : H.get b = some (.cells true es cs)) (off : Nat) {xs ys : List Value} (hxy : LRel r xs ys)
    (hn : off + xs.length ≤ cs.length) (h1 : xs.all Abs.oneC = true) :
    ∃ w', (storeCells ⟨L.B, L.o + off, none⟩ ys 0).run P w = .ok () w' ∧ Rel base w0 r (H.set b (.cells true es (putL cs off xs))) w' := by
  obtain ⟨C, e, fz, hC, hes, hown, hlen, hcs⟩ := hR.cells hb hg
  obtain ⟨rfl, hB, hK⟩ := hown rfl
  have hyl : ys.length = xs.length := hxy.1.symm
  obtain ⟨w', hrun, hg', ho', hbel⟩ := run_storeCells_in P L.B e (L.o + off) ys 0 C w hC (by omega) (hxy.all_oneC h1)
  refine ⟨w', hrun, hR.write hb hg rfl _ w' (hbel base hB) ho' ?_⟩
  refine ⟨_, e, (0, 0), hg', hes, fun _ => ⟨rfl, hB, ?_⟩, ?_, ?_⟩
  · simp only [List.size_toArray, List.length_append, List.length_take, List.length_drop, Array.length_toList]; omega
  · rw [putL_length _ _ _ hn]
    simp only [List.size_toArray, List.length_append, List.length_take, List.length_drop, Array.length_toList]; omega
  · intro i v hv
    rw [putL_get _ _ _ hn] at hv
    have hget : ∀ j, (C.toList.take (L.o + off + 0) ++ ys ++ C.toList.drop (L.o + off + 0 + ys.length)).toArray[j]? = if j < L.o + off then C[j]? else if j < L.o + off + ys.length then ys[j - (L.o + off)]? else C[j]? := by
      intro j
      have := putL_get C.toList (L.o + off) ys (by simp; omega) j
      unfold putL at this
      simp only [Nat.add_zero, List.getElem?_toArray, List.append_assoc]
      rw [this]
      simp only [Array.getElem?_toList]
    rw [hget]
    by_cases h2 : i < off
    · rw [if_pos h2] at hv
      rw [if_pos (by omega)]
      exact hcs i v hv
    · rw [if_neg h2] at hv
      rw [if_neg (by omega)]
      by_cases h3 : i < off + xs.length
      · rw [if_pos h3] at hv
        rw [if_pos (by omega)]
        obtain ⟨y, hy, hr⟩ := hxy.get hv
        exact ⟨y, by rw [← hy]; congr 1; omega, hr⟩
      · rw [if_neg h3] at hv
        rw [if_neg (by omega)]
        exact hcs i v hv

theorem storeA_sound {t : TypeId} {b off : Nat} {v v' : Value} {L : Loc} {H' : Heap} (h : storeA P t H b off v = some H') (hR : Rel base w0 r H w) (hb : r b = some L) (hv : VRel r v v') :
    ∃ w', (storeVar t ⟨L.B, L.o + off, none⟩ v').run P w = .ok () w' ∧ Rel base w0 r H' w' := by
  unfold storeA at h
  split at h
  · rename_i es cs i hg hi
    split at h
    · rename_i hc
      obtain ⟨h1, h2, h3⟩ := hc
      cases h
      have hl := hv.cells
      obtain ⟨w', hw', hR'⟩ := hR.stored (P := P) hb hg off hl (by simpa using by omega) h3
      refine ⟨w', ?_, hR'⟩
      have hsz : v'.cells.size = i.size := by have := hl.1; simp at this; omega
      simp only [storeVar, Sem.run_bind, run_sizeOf hi, Result.andThen_ok, hsz]
      simp only [ne_eq, not_true_eq_false, if_false, hw']
    · cases h
  · cases h

/-- A row of new cells. -/
theorem Rel.newRow (hR : Rel base w0 r H w) {xs ys : List Value} (hxy : LRel r xs ys) (es K : Nat) (extra : List Value) (e : TypeId) (hK : K ≤ (ys ++ extra).length) :
    Rel base w0 (r.add H.next ⟨w.heap.size, 0, K, es⟩) (H.push (.cells true es xs)) (w.alloc (.cells (ys ++ extra).toArray e)) ∧ Ren.le r (r.add H.next ⟨w.heap.size, 0, K, es⟩) := by
  refine hR.alloc _ _ _ rfl rfl ?_
  refine ⟨(ys ++ extra).toArray, e, (0, 0), heap_alloc_new w _, rfl, fun _ => ⟨rfl, hR.le, by simpa using hK⟩, by have := hxy.1; simp; omega, ?_⟩
  intro i v hv
  obtain ⟨y, hy, hr⟩ := hxy.get hv
  refine ⟨y, ?_, hr.mono (Ren.le_add (hR.fresh (Nat.le_refl _)) hR.rn)⟩
  have hi : i < ys.length := (List.getElem?_eq_some_iff.1 hy).1
  simp only [Nat.zero_add, List.getElem?_toArray]
  rw [List.getElem?_append_left hi]
  exact hy
end
end Go.Abs

/-
  What one operation does on the abstract heap it does in the model's world: (2) the operations.
-/
namespace Go.Abs
noncomputable section
open Go Go.RowKit
set_option linter.unusedVariables false
set_option linter.unusedSimpArgs false

variable {P : Program} {base : Nat} {w0 w : World} {r : Ren} {H : Heap}

theorem zeroA_rel {t : TypeId} {z : Value} {n : Nat} (h : zeroA P t = some (z, n)) : ∃ i, P.info? t = some i ∧ i.zero = some z ∧ pureV z = true ∧ n = i.size := by
  unfold zeroA at h
  split at h
  · rename_i i hi
    split at h
    · rename_i z' hz
      split at h
      · rename_i hp; cases h; exact ⟨i, hi, hz, hp, rfl⟩
      · cases h
    · cases h
  · cases h

theorem elemA_some {t e : TypeId} {i : TypeInfo} (h : elemA P t = some (e, i)) : P.underlying t = some (.slice e) ∧ P.info? e = some i := by
  unfold elemA at h
  split at h
  · rename_i e' hu
    split at h
    · rename_i i' hi; cases h; exact ⟨hu, hi⟩
    · cases h
  · cases h

theorem run_zeroValue {t : TypeId} {i : TypeInfo} {z : Value} (hi : P.info? t = some i) (hz : i.zero = some z) (w : World) : (zeroValue t).run P w = .ok z w := by
  simp [zeroValue, typeInfo, hi, hz]

/-! ### fill -/
theorem fold_rel {r : Ren} : ∀ (us vs : List Value) (off k : Nat) (xs ys : Array Value), LRel r us vs → LRel r xs.toList ys.toList →
    LRel r ((us.zipIdx k).foldl (fun cs (c, j) => cs.setIfInBounds (off + j) c) xs).toList ((vs.zipIdx k).foldl (fun cs (c, j) => cs.setIfInBounds (off + j) c) ys).toList
  | [], [], _, _, xs, ys, _, h => by simpa using h
  | [], v :: vs, _, _, _, _, hu, _ => by have := hu.1; simp at this
  | u :: us, [], _, _, _, _, hu, _ => by have := hu.1; simp at this
  | u :: us, v :: vs, off, k, xs, ys, hu, h => by
    simp only [List.zipIdx_cons, List.foldl_cons]
    refine fold_rel us vs off (k + 1) _ _ ⟨by have := hu.1; simpa using this, fun i x y hx hy => hu.2 (i + 1) x y (by simpa using hx) (by simpa using hy)⟩ ?_
    refine ⟨by simpa using h.1, fun i x y hx hy => ?_⟩
    simp only [Array.toList_setIfInBounds, List.getElem?_set] at hx hy
    have hl := h.1
    split at hx
    · rename_i e
      rw [if_pos e] at hy
      split at hx
      · cases hx
        split at hy
        · cases hy; exact hu.2 0 u v (by simp) (by simp)
        · cases hy
      · cases hx
    · rename_i e
      rw [if_neg e] at hy
      exact h.2 i x y hx hy

theorem fill_rel {r : Ren} (place : Nat → Option (Nat × Nat)) : ∀ (ps qs : List (Nat × Value)) (xs ys : Array Value) (zs : Array Value), ps.length = qs.length → (∀ (i : Nat) p q, ps[i]? = some p → qs[i]? = some q → p.1 = q.1 ∧ VRel r p.2 q.2) →
    LRel r xs.toList ys.toList → Instr.fill place xs ps = some zs → ∃ us, Instr.fill place ys qs = some us ∧ LRel r zs.toList us.toList
  | [], [], xs, ys, zs, _, _, h, hf => by simp only [Instr.fill, Option.some.injEq] at hf ⊢; subst hf; exact ⟨ys, rfl, h⟩
  | [], q :: qs, _, _, _, hl, _, _, _ => by simp at hl
  | p :: ps, [], _, _, _, hl, _, _, _ => by simp at hl
  | (i, v) :: ps, (j, u) :: qs, xs, ys, zs, hl, hp, h, hf => by
    obtain ⟨e, hvu⟩ := hp 0 (i, v) (j, u) (by simp) (by simp)
    simp only at e hvu
    subst e
    simp only [Instr.fill] at hf ⊢
    have hc := hvu.cells
    have hsz : v.cells.size = u.cells.size := by have := hc.1; simpa using this
    have hs2 : xs.size = ys.size := by have := h.1; simpa using this
    cases hpl : place i with
    | none => rw [hpl] at hf; cases hf
    | some os =>
      obtain ⟨off, size⟩ := os
      rw [hpl] at hf
      simp only at hf ⊢
      rw [← hsz, ← hs2]
      split at hf
      · cases hf
      · rename_i hcond
        rw [if_neg hcond]
        refine fill_rel place ps qs _ _ zs (by simpa using hl) (fun k p q hp' hq' => hp (k + 1) p q (by simpa using hp') (by simpa using hq')) ?_ hf
        have := fold_rel v.cells.toList u.cells.toList off 0 xs ys hc h
        have e1 : ∀ (cs : Array Value) (a : Array Value), (cs.zipIdx.foldl (fun cs (c, j) => cs.setIfInBounds (off + j) c) a) = (cs.toList.zipIdx.foldl (fun cs (c, j) => cs.setIfInBounds (off + j) c) a) := fun cs a => by
          rw [← Array.foldl_toList, Array.toList_zipIdx]
        rw [e1, e1]
        exact this

theorem built_rel {r : Ren} {t : TypeId} {ps qs : List (Nat × Value)} {zs : Array Value} (hz : ∃ z n, zeroA P t = some (z, n)) (hl : ps.length = qs.length) (hp : ∀ (i : Nat) p q, ps[i]? = some p → qs[i]? = some q → p.1 = q.1 ∧ VRel r p.2 q.2)
    (h : P.built t ps = some zs) : ∃ us, P.built t qs = some us ∧ LRel r zs.toList us.toList := by
  obtain ⟨z, n, hz⟩ := hz
  obtain ⟨i, hi, hzz, hpure, _⟩ := zeroA_rel hz
  have hrz : LRel r z.cells.toList z.cells.toList := (pureV_rel hpure r).cells
  unfold Program.built at h ⊢
  rw [hi] at h ⊢
  cases hu : P.underlying t with
  | none => rw [hu] at h; cases h
  | some d =>
    rw [hu] at h
    cases d with
    | array n e =>
      simp only [hzz] at h ⊢
      cases he : P.info? e with
      | none => rw [he] at h; cases h
      | some ie => rw [he] at h; simp only at h ⊢; exact fill_rel _ ps qs _ _ zs hl hp hrz h
    | struct fields =>
      simp only [hzz] at h ⊢
      cases hm : fields.toList.mapM (fun f => (P.info? f.type).map fun i => (f.offset, i.size)) with
      | none => rw [hm] at h; cases h
      | some places => rw [hm] at h; simp only at h ⊢; exact fill_rel _ ps qs _ _ zs hl hp hrz h
    | _ => simp at h

/-! ### Cells of slices -/
theorem cellsA_sound {size : Nat} {x x' : Value} {cs : List Value} (h : cellsA H size x = some cs) (hR : Rel base w0 r H w) (hx : VRel r x x') :
    ∃ ys n, LRel r cs ys ∧ lenA x = some n ∧ cs.length = n * size ∧
      ((x = .slice none 0 0 ∧ x' = .slice none 0 0 ∧ n = 0) ∨ (x = .slice (some ⟨0, 0, some 0⟩) 0 0 ∧ (∃ a, x' = .slice (some a) 0 0) ∧ n = 0) ∨
       ∃ b off c L o' c', x = .slice (some ⟨b, off, none⟩) n c ∧ x' = .slice (some ⟨L.B, o', none⟩) n c' ∧ r b = some L ∧ (o' = L.o + off ∨ (n = 0 ∧ (BIG ≤ c ∨ c = 0) ∧ L.o ≤ o')) ∧ capRel L o' n c c' ∧
         ∀ (j : Nat) v, ys[j]? = some v → w.cell? ((⟨L.B, o', none⟩ : Addr).add j) = some v) := by
  cases hx with
  | sliceNil => simp only [cellsA, Option.some.injEq] at h; subst h; exact ⟨[], 0, LRel.nil r, rfl, by simp, .inl ⟨rfl, rfl, rfl⟩⟩
  | sliceZ a => simp only [cellsA, Option.some.injEq] at h; subst h; exact ⟨[], 0, LRel.nil r, rfl, by simp, .inr (.inl ⟨rfl, ⟨a, rfl⟩, rfl⟩)⟩
  | slice hb ho hc =>
    rename_i b off n c o' c' L
    simp only [cellsA] at h
    split at h
    · rename_i own es cs' hg
      split at h
      · rename_i hn
        cases h
        obtain ⟨vs, hrel, hl, hread⟩ := hR.read hb hg off (n * size) hn
        refine ⟨vs, n, hrel, rfl, by simp; omega, .inr (.inr ⟨b, off, c, L, o', c', rfl, rfl, hb, ho, hc, fun j v hv => ?_⟩)⟩
        rcases ho with rfl | ⟨rfl, _⟩
        · rw [addr_add]; exact hread j v hv
        · have : vs = [] := List.eq_nil_of_length_eq_zero (by simpa using hl)
          subst this; simp at hv
      · cases h
    · cases h
  | _ => simp [cellsA] at h

theorem BIG_val : BIG = 9223372036854775808 := rfl

theorem appendA_sound {t ty : TypeId} {s s' x x' v : Value} {H' : Heap} (h : appendA P t s x H = some (v, H')) (hR : Rel base w0 r H w) (hs : VRel r s s') (hx : VRel r x x') :
    ∃ v' w' r', (Builtin.append_ #[t, t] ty #[s', x']).run P w = .ok v' w' ∧ Ren.le r r' ∧ VRel r' v v' ∧ Rel base w0 r' H' w' := by
  unfold appendA at h
  cases he : elemA P t with
  | none => rw [he] at h; cases h
  | some ei =>
  obtain ⟨e, i⟩ := ei
  obtain ⟨hu, hi⟩ := elemA_some he
  rw [he] at h
  simp only at h
  split at h
  rotate_left
  · cases h
  rename_i z zn olds news n m hz hco hcn hln hlm
  obtain ⟨i', hi', hzz, hpure, hzn⟩ := zeroA_rel hz
  rw [hi] at hi'; cases hi'
  split at h
  rotate_left
  · cases h
  rename_i hcond
  obtain ⟨hby, hnm, hsz, hzs, hone⟩ := hcond
  obtain ⟨yo, n', hro, hln', hlo, ho⟩ := cellsA_sound hco hR hs
  rw [hln] at hln'; cases hln'
  obtain ⟨yn, m', hrn, hlm', hln2, hn⟩ := cellsA_sound hcn hR hx
  rw [hlm] at hlm'; cases hlm'
  have hyo : yo.length = n * i.size := by rw [← hro.1]; exact hlo
  have hyn : yn.length = m * i.size := by rw [← hrn.1]; exact hln2
  have hone' := hrn.all_oneC hone
  have hbytes : (n + m) * i.bytes ≤ 140737488355328 := by
    calc (n + m) * i.bytes ≤ 1073741824 * 65536 := Nat.mul_le_mul hnm hby
      _ ≤ _ := by omega
  by_cases hm0 : m = 0
  · -- nothing is appended
    rw [if_pos hm0] at h
    cases h
    subst hm0
    refine ⟨s', w, r, ?_, Ren.le_refl r, hs, hR⟩
    have hyn0 : yn = [] := List.eq_nil_of_length_eq_zero (by simpa using hyn)
    subst hyn0
    have hfc : ∀ w : World, (Builtin.firstCells i.size 0 x').run P w = .ok #[] w := by
      intro w
      rcases hn with ⟨_, rfl, _⟩ | ⟨_, ⟨a, rfl⟩, _⟩ | ⟨b, off, c, L, o', c', _, rfl, _⟩
      · exact run_firstCells_none _ _ _ _ _
      · simp [Builtin.firstCells, loadCells, loadCellsFrom]
      · simp [Builtin.firstCells, loadCells, loadCellsFrom]
    have hlen : ∀ w : World, (Builtin.lenOf x').run P w = .ok 0 w := by
      intro w
      rcases hn with ⟨_, rfl, _⟩ | ⟨_, ⟨a, rfl⟩, _⟩ | ⟨b, off, c, L, o', c', _, rfl, _⟩ <;> rfl
    rcases ho with ⟨_, rfl, rfl⟩ | ⟨_, ⟨a, rfl⟩, rfl⟩ | ⟨b, off, c, L, o', c', _, rfl, _, _, hcap, _⟩
    · simp [Builtin.append_, run_underlying hu, sizeOf, typeInfo, hi, hlen, hfc]
    · simp [Builtin.append_, run_underlying hu, sizeOf, typeInfo, hi, hlen, hfc, storeCells]
    · simp [Builtin.append_, run_underlying hu, sizeOf, typeInfo, hi, hlen, hfc, hcap.1, storeCells]
  rw [if_neg hm0] at h
  -- what comes is a slice with cells
  rcases hn with ⟨_, _, h0⟩ | ⟨_, _, h0⟩ | ⟨bx, offx, cx, Lx, ox, cx', rfl, rfl, hbx, hox, hcapx, hreadx⟩
  · exact absurd h0 hm0
  · exact absurd h0 hm0
  rcases ho with ⟨rfl, rfl, rfl⟩ | ⟨rfl, ⟨a, rfl⟩, rfl⟩ | ⟨b, off, c, L, o', c', rfl, rfl, hb, ho', hcap, hread⟩
  · -- onto nil: a new row
    simp only [Nat.zero_add, Option.some.injEq, Prod.mk.injEq] at h
    obtain ⟨rfl, rfl⟩ := h
    have hol : olds = [] := List.eq_nil_of_length_eq_zero (by simpa using hlo)
    subst hol
    simp only [List.nil_append]
    have hr := run_append_nil (P := P) w t ty e i z hu hi hzz ⟨Lx.B, ox, none⟩ m cx' yn hyn hreadx (by omega) (by omega) (by simp only [Nat.zero_add] at hbytes; omega)
    have hge := grownCap_ge w m 0 e
    have hcm := grownCap_le_maxLen w m 0 e (by simp only [maxLen]; omega)
    obtain ⟨hR', hle⟩ := hR.drew.newRow hrn i.size (grownCap w m 0 e * i.size) (Builtin.zeroCells z.cells (grownCap w m 0 e - m)).toList e (by
      rw [List.length_append, hyn, Array.length_toList, size_zeroCells, hzs, ← Nat.add_mul]
      exact Nat.mul_le_mul_right _ (by omega))
    refine ⟨_, _, _, hr, hle, ?_, ?_⟩
    · refine .slice (Ren.add_self _ _ _) (.inl rfl) ⟨hge, hcm, fun hh => absurd hh (by rw [BIG_val]; omega), fun _ => ?_⟩
      simp [World.drew]
    · rw [show yn.toArray ++ Builtin.zeroCells z.cells (grownCap w m 0 e - m) = (yn ++ (Builtin.zeroCells z.cells (grownCap w m 0 e - m)).toList).toArray from by apply Array.ext'; simp]
      exact hR'
  · -- onto a slice without room
    simp only [Nat.zero_add] at h
    rw [if_pos (by rw [BIG_val]; omega), if_neg (by omega)] at h
    cases h
    have hol : olds = [] := List.eq_nil_of_length_eq_zero (by simpa using hlo)
    subst hol
    have hyo0 : yo = [] := List.eq_nil_of_length_eq_zero (by simpa using hyo)
    subst hyo0
    simp only [List.nil_append]
    have hr := run_append_grow (P := P) w t ty e i z hu hi hzz a 0 0 [] (by simp) (fun j v hv => by simp at hv) ⟨Lx.B, ox, none⟩ m cx' yn hyn hreadx (by omega) (by omega) (growslice_fits (by omega) hbytes)
    simp only [Nat.zero_add, List.nil_append] at hr
    have hge := grownCap_ge w m 0 e
    have hcm := grownCap_le_maxLen w m 0 e (by simp only [maxLen]; omega)
    obtain ⟨hR', hle⟩ := hR.drew.newRow hrn i.size (grownCap w m 0 e * i.size) (Builtin.zeroCells z.cells (grownCap w m 0 e - m)).toList e (by
      rw [List.length_append, hyn, Array.length_toList, size_zeroCells, hzs, ← Nat.add_mul]
      exact Nat.mul_le_mul_right _ (by omega))
    refine ⟨_, _, _, hr, hle, ?_, ?_⟩
    · refine .slice (Ren.add_self _ _ _) (.inl rfl) ⟨hge, hcm, fun hh => absurd hh (by rw [BIG_val]; omega), fun _ => ?_⟩
      simp [World.drew]
    · simp only [List.append_toArray, List.nil_append]
      rw [show yn.toArray ++ Builtin.zeroCells z.cells (grownCap w m 0 e - m) = (yn ++ (Builtin.zeroCells z.cells (grownCap w m 0 e - m)).toList).toArray from by apply Array.ext'; simp]
      exact hR'
  · -- onto a slice with a block
    have hdrop : (Value.slice (some ⟨b, off, none⟩) n c : Value) = .slice (some ⟨b, off, none⟩) n c := rfl
    simp only at h
    have grow : c' < n + m → ∃ v' w', (Builtin.append_ #[t, t] ty #[.slice (some ⟨L.B, o', none⟩) n c', .slice (some ⟨Lx.B, ox, none⟩) m cx']).run P w = .ok v' w' ∧ v' = .slice (some ⟨w.heap.size, 0, none⟩) (n + m) (grownCap w (n + m) c' e) ∧
        w' = w.drew.alloc (.cells ((yo ++ yn) ++ (Builtin.zeroCells z.cells (grownCap w (n + m) c' e - (n + m))).toList).toArray e) := by
      intro hlt
      have hr := run_append_grow (P := P) w t ty e i z hu hi hzz ⟨L.B, o', none⟩ n c' yo hyo hread ⟨Lx.B, ox, none⟩ m cx' yn hyn hreadx hlt (by omega) (growslice_fits hlt hbytes)
      refine ⟨_, _, hr, rfl, ?_⟩
      congr 2
      apply Array.ext'
      simp
    have hge : n + m ≤ grownCap w (n + m) c' e := grownCap_ge w (n + m) c' e
    have hcm : grownCap w (n + m) c' e ≤ maxLen := grownCap_le_maxLen w (n + m) c' e (by simp only [maxLen]; omega)
    have hKle : grownCap w (n + m) c' e * i.size ≤ ((yo ++ yn) ++ (Builtin.zeroCells z.cells (grownCap w (n + m) c' e - (n + m))).toList).length := by
      rw [List.length_append, List.length_append, hyo, hyn, Array.length_toList, size_zeroCells, hzs, ← Nat.add_mul, ← Nat.add_mul]
      exact Nat.mul_le_mul_right _ (by omega)
    -- in place: what the stores do
    have room : n + m ≤ c' → ∀ w' : World, (storeCells ((⟨L.B, o', none⟩ : Addr).add (n * i.size)) yn 0).run P w = .ok () w' →
        (Builtin.append_ #[t, t] ty #[.slice (some ⟨L.B, o', none⟩) n c', .slice (some ⟨Lx.B, ox, none⟩) m cx']).run P w = .ok (.slice (some ⟨L.B, o', none⟩) (n + m) c') w' := by
      intro hroom w' hst
      have hf := run_firstCells_some (P := P) w i.size m ⟨Lx.B, ox, none⟩ m cx' yn hyn hreadx
      have hst' : (storeCells ((⟨L.B, o', none⟩ : Addr).add (n * i.size)) yn).run P w = .ok () w' := hst
      simp [Builtin.append_, run_underlying hu, sizeOf, typeInfo, hi, Builtin.lenOf, hroom, hf, hst']
    by_cases hknown : c < BIG
    · -- its capacity is known
      rw [if_pos hknown] at h
      have hcc : c' = c := hcap.2.2.1 hknown
      subst hcc
      by_cases hroom : n + m ≤ c'
      · rw [if_pos hroom] at h
        split at h
        · rename_i es cs hg
          split at h
          · rename_i hfit
            cases h
            have ho2 : o' = L.o + off := by
              rcases ho' with ho' | ⟨h1, h2 | h2, _⟩
              · exact ho'
              · omega
              · omega
            subst ho2
            have hnl : news.length = m * i.size := hln2
            obtain ⟨w', hw', hR'⟩ := hR.stored (P := P) hb hg (off + n * i.size) hrn (by rw [hnl, Nat.add_assoc, ← Nat.add_mul]; exact hfit) hone
            refine ⟨_, w', r, room hroom w' ?_, Ren.le_refl r, .slice hb (.inl rfl) ⟨hroom, hcap.2.1, fun _ => rfl, fun hh => absurd hh (by omega)⟩, hR'⟩
            rw [addr_add, Nat.add_assoc]; exact hw'
          · cases h
        · cases h
      · rw [if_neg hroom] at h
        cases h
        obtain ⟨v', w', hr, rfl, rfl⟩ := grow (by omega)
        obtain ⟨hR', hle⟩ := hR.drew.newRow (hro.append hrn) i.size (grownCap w (n + m) c' e * i.size) (Builtin.zeroCells z.cells (grownCap w (n + m) c' e - (n + m))).toList e hKle
        refine ⟨_, _, _, hr, hle, ?_, hR'⟩
        refine .slice (Ren.add_self _ _ _) (.inl rfl) ⟨hge, hcm, fun hh => absurd hh (by rw [BIG_val]; omega), fun _ => ?_⟩
        simp [World.drew]
    · -- it is not
      rw [if_neg hknown] at h
      split at h
      rotate_left
      · cases h
      rename_i es cs hg
      split at h
      rotate_left
      · cases h
      rename_i hes
      cases h
      have hcapK := hcap.2.2.2 (by omega)
      by_cases hroom : n + m ≤ c'
      · -- in place: the old block dies, the new one lies where it lay
        obtain ⟨C, e', fz, hC, hes', hown, hlen, hcs⟩ := hR.cells hb hg
        obtain ⟨rfl, hB, hK⟩ := hown rfl
        have hLs : L.es = i.size := hes'.trans hes
        have hmul : (n + m) * i.size ≤ c' * i.size := Nat.mul_le_mul_right _ hroom
        rw [hLs] at hcapK
        have hsplit : (n + m) * i.size = n * i.size + m * i.size := Nat.add_mul _ _ _
        have hnl : news.length = m * i.size := hln2
        obtain ⟨w', hrun, hg', hoth, hbel⟩ := run_storeCells_in P L.B e' (o' + n * i.size) yn 0 C w hC (by omega) hone'
        have hLo : L.o ≤ o' := by rcases ho' with rfl | ⟨_, _, h3⟩ <;> omega
        obtain ⟨hR', hle⟩ := hR.move hb hg rfl ⟨L.B, o', L.o + L.K - o', i.size⟩ rfl (.cells true i.size (olds ++ news)) w' rfl (hbel base hB) hoth (by
          refine ⟨_, e', (0, 0), hg', rfl, fun _ => ⟨rfl, hB, ?_⟩, ?_, ?_⟩
          · simp only [List.size_toArray, List.length_append, List.length_take, List.length_drop, Array.length_toList]; omega
          · simp only [List.size_toArray, List.length_append, List.length_take, List.length_drop, Array.length_toList]; omega
          · intro k v hv
            have hle := Ren.le_add (L := ⟨L.B, o', L.o + L.K - o', i.size⟩) (hR.fresh (Nat.le_refl _)) hR.rn
            simp only [Nat.add_zero, List.getElem?_toArray, List.append_assoc]
            by_cases hk : k < olds.length
            · rw [List.getElem?_append_left hk] at hv
              obtain ⟨y, hy, hyr⟩ := hro.get hv
              refine ⟨y, ?_, hyr.mono hle⟩
              have := hread k y hy
              rw [addr_add, cell_of_row w L.B _ C e' _ hC] at this
              rw [List.getElem?_append_left (by simp; omega), List.getElem?_take, if_pos (by omega), Array.getElem?_toList]
              exact this
            · rw [List.getElem?_append_right (by omega)] at hv
              obtain ⟨y, hy, hyr⟩ := hrn.get hv
              refine ⟨y, ?_, hyr.mono hle⟩
              have hyl : k - olds.length < yn.length := (List.getElem?_eq_some_iff.1 hy).1
              rw [List.getElem?_append_right (by simp; omega), List.getElem?_append_left (by simp; omega)]
              rw [← hy]
              congr 1
              simp; omega)
        refine ⟨_, w', _, room hroom w' ?_, hle, ?_, hR'⟩
        · rw [addr_add]; exact hrun
        · refine .slice (L := ⟨L.B, o', L.o + L.K - o', i.size⟩) (Ren.add_self _ _ _) (.inl rfl) ⟨hroom, hcap.2.1, fun hh => absurd hh (by rw [BIG_val]; omega), fun _ => ?_⟩
          simp only
          omega
      · -- a new row; the old block dies all the same
        obtain ⟨v', w', hr, rfl, rfl⟩ := grow (by omega)
        have hdead : Rel base w0 r (H.set b .dead) w := by
          refine ⟨hR.below, hR.le, ?_, ?_, ?_, hR.rn⟩
          · intro q M hq
            rw [Heap.get_set]
            split
            · exact ⟨.dead, rfl, trivial⟩
            · exact hR.dom q M hq
          · intro q q' M N oq oq' hq hq' hgq hgq' h1 h2 hne
            rw [Heap.get_set] at hgq hgq'
            split at hgq
            · cases hgq; cases h1
            · split at hgq'
              · cases hgq'; cases h2
              · exact hR.inj q q' M N oq oq' hq hq' hgq hgq' h1 h2 hne
          · intro q hq
            rw [Heap.get_set]
            split
            · rename_i e1; subst e1; have := hR.wf q hq; rw [hg] at this; cases this
            · exact hR.wf q hq
        obtain ⟨hR', hle⟩ := hdead.drew.newRow (hro.append hrn) i.size (grownCap w (n + m) c' e * i.size) (Builtin.zeroCells z.cells (grownCap w (n + m) c' e - (n + m))).toList e hKle
        refine ⟨_, _, _, hr, hle, ?_, hR'⟩
        refine .slice (Ren.add_self _ _ _) (.inl rfl) ⟨hge, hcm, fun hh => absurd hh (by rw [BIG_val]; omega), fun _ => ?_⟩
        simp [World.drew]
end
end Go.Abs

/-
  What one operation does on the abstract heap it does in the model's world: (3) every operation, in one statement.
-/
namespace Go.Abs
noncomputable section
open Go Go.RowKit
set_option linter.unusedVariables false
set_option linter.unusedSimpArgs false

def OpRel (P : Program) (base : Nat) (w0 : World) (r : Ren) (H : Heap) : ORes → Heap → Result Next → Prop
  | .val v, H', res => ∃ x w' v' r', res = .ok x w' ∧ (x = .value v' ∨ (x = .skip ∧ v' = undef)) ∧ Ren.le r r' ∧ VRel r' v v' ∧ Rel base w0 r' H' w'
  | .call f args, H', res => ∃ args' w', res = .ok (.enter f args') w' ∧ LRel r args args'.toList ∧ Rel base w0 r H' w' ∧ bodied P f = true
  | .round l args, H', res => ∃ L args' c w', res = .ok (.round L.B c.fn ((c.params.zip args').foldl (fun tmps (t, a) => tmps.setIfInBounds t a) c.tmps) c.assign c.body) w' ∧ r l = some L ∧ w'.heap[L.B]? = some (.loop c) ∧
      LRel r args args'.toList ∧ Rel base w0 r H' w'
  | .defer f args, H', res => ∃ cap args' w', res = .ok (.defer { target := .fn (.func f) cap, args := args' }) w' ∧ LRel r args (args' ++ cap).toList ∧ Rel base w0 r H' w' ∧ bodied P f = true
  | .panic v, H', res => ∃ v' w', res = .halt (.panic v') w' ∧ VRel r v v' ∧ Rel base w0 r H' w'
  | .recover, H', res => ∃ w', res = .ok .recover w' ∧ Rel base w0 r H' w'

variable {P : Program} {base : Nat} {w0 w : World} {r : Ren} {H : Heap} {env : Env} {ρ : Operand → Value}

theorem opRel_val {v v' : Value} (hR : Rel base w0 r H w) (h : VRel r v v') : OpRel P base w0 r H (.val v) H (.ok (.value v') w) :=
  ⟨_, w, v', r, rfl, .inl rfl, Ren.le_refl r, h, hR⟩

theorem mapM_rel (hS : SRel r env ρ) : ∀ (l : List Operand) (xs : List Value), l.mapM (evA env) = some xs → LRel r xs (l.map ρ)
  | [], xs, h => by simp at h; subst h; exact LRel.nil r
  | x :: l, xs, h => by
    simp only [List.mapM_cons, Option.bind_eq_bind, Option.pure_def] at h
    cases hx : evA env x with
    | none => rw [hx] at h; cases h
    | some v =>
      rw [hx] at h
      simp only [Option.bind_some] at h
      cases hl : l.mapM (evA env) with
      | none => rw [hl] at h; cases h
      | some vs =>
        rw [hl] at h
        simp only [Option.bind_some, Option.some.injEq] at h
        subst h
        exact LRel.cons (hS x v hx) (mapM_rel hS l vs hl)

theorem partsA_rel (hS : SRel r env ρ) (parts : Array (Nat × Operand)) (ps : List (Nat × Value)) (h : partsA env parts = some ps) :
    ps.length = (parts.map fun (i, x) => (i, ρ x)).toList.length ∧ ∀ (i : Nat) p q, ps[i]? = some p → (parts.map fun (i, x) => (i, ρ x)).toList[i]? = some q → p.1 = q.1 ∧ VRel r p.2 q.2 := by
  have key : ∀ (l : List (Nat × Operand)) (ps : List (Nat × Value)), l.mapM (fun (i, x) => (evA env x).map fun v => (i, v)) = some ps →
      ps.length = l.length ∧ ∀ (i : Nat) p q, ps[i]? = some p → (l.map fun (i, x) => (i, ρ x))[i]? = some q → p.1 = q.1 ∧ VRel r p.2 q.2 := by
    intro l
    induction l with
    | nil => intro ps h; simp at h; subst h; exact ⟨rfl, fun i p q h => by simp at h⟩
    | cons a l ih =>
      intro ps h
      obtain ⟨k, x⟩ := a
      simp only [List.mapM_cons, Option.bind_eq_bind, Option.pure_def] at h
      cases hx : evA env x with
      | none => rw [hx] at h; cases h
      | some v =>
        rw [hx] at h
        simp only [Option.map_some, Option.bind_some] at h
        cases hl : l.mapM (fun (p : Nat × Operand) => (evA env p.2).map fun v => (p.1, v)) with
        | none => rw [hl] at h; cases h
        | some vs =>
          rw [hl] at h
          simp only [Option.bind_some, Option.some.injEq] at h
          subst h
          obtain ⟨h1, h2⟩ := ih vs hl
          refine ⟨by simp [h1], fun i p q hp hq => ?_⟩
          cases i with
          | zero => simp at hp hq; subst hp; subst hq; exact ⟨rfl, hS x v hx⟩
          | succ i => simp at hp hq; exact h2 i p q hp (by simpa using hq)
  obtain ⟨h1, h2⟩ := key parts.toList ps h
  refine ⟨by simpa using h1, fun i p q hp hq => h2 i p q hp ?_⟩
  simpa using hq

/-! ### The single operations -/
theorem fieldA_some {s : TypeId} {f off : Nat} {t : TypeId} {size : Nat} (h : fieldA P s f = some (off, t, size)) :
    ∃ fields fd i, P.underlying s = some (.struct fields) ∧ fields[f]? = some fd ∧ P.info? fd.type = some i ∧ off = fd.offset ∧ t = fd.type ∧ size = i.size := by
  unfold fieldA at h
  split at h
  · rename_i fields hu
    split at h
    · rename_i fd hf
      split at h
      · rename_i i hi; cases h; exact ⟨fields, fd, i, hu, hf, hi, rfl, rfl, rfl⟩
      · cases h
    · cases h
  · cases h

theorem partA_sound {t : TypeId} {cs ds : Array Value} {off : Nat} {v : Value} (h : partA P t cs off = some v) (hc : LRel r cs.toList ds.toList) (w : World) :
    ∃ v', (part t ds off).run P w = .ok v' w ∧ VRel r v v' := by
  unfold partA at h
  split at h
  · rename_i d i hd hi
    cases ha : isAggD d with
    | true =>
      rw [ha] at h
      simp only [if_true, Option.some.injEq] at h
      subst h
      refine ⟨_, by simp only [part, Sem.run_bind, run_isAgg hd, Result.andThen_ok, ha, if_true, run_sizeOf hi, Sem.run_pure]; rfl, ?_⟩
      have := (hc.drop off).take i.size
      refine .agg (by have := hc.1; simp at this ⊢; omega) (fun k x y hx hy => this.2 k x y ?_ ?_)
      · rw [List.getElem?_take]
        have hx' : k < off + i.size - off := by
          have := (Array.getElem?_eq_some_iff.1 hx).1
          simp at this; omega
        rw [if_pos (by omega), List.getElem?_drop, Array.getElem?_toList]
        rw [Array.getElem?_extract] at hx
        split at hx
        · exact hx
        · cases hx
      · rw [List.getElem?_take]
        have hx' : k < off + i.size - off := by
          have := (Array.getElem?_eq_some_iff.1 hy).1
          simp at this; omega
        rw [if_pos (by omega), List.getElem?_drop, Array.getElem?_toList]
        rw [Array.getElem?_extract] at hy
        split at hy
        · exact hy
        · cases hy
    | false =>
      rw [ha] at h
      simp only [Bool.false_eq_true, if_false] at h
      obtain ⟨y, hy, hr⟩ := hc.get (by simpa using h : cs.toList[off]? = some v)
      refine ⟨y, ?_, hr⟩
      have hy' : ds[off]? = some y := by simpa using hy
      simp only [part, Sem.run_bind, run_isAgg hd, Result.andThen_ok, ha, Bool.false_eq_true, if_false, hy', Sem.run_pure]
  · cases h

theorem indexAddrA_sound {t : TypeId} {x x' v : Value} {n : Int} {k : IntKind} (h : indexAddrA P t x n = some v) (hx : VRel r x x') (w : World) :
    ∃ v', (Instr.indexAt t x' (.int k n)).run P w = .ok v' w ∧ VRel r v v' := by
  unfold indexAddrA at h
  split at h
  · rename_i e a len cap hu
    split at h
    · rename_i i hi
      split at h
      · rename_i hb
        cases h
        cases hx with
        | sliceZ a => omega
        | slice hr ho hc =>
          rename_i b off o' c' L
          have ho2 : o' = L.o + off := by rcases ho with ho | ⟨h1, _⟩; exact ho; omega
          subst ho2
          refine ⟨.pointer (some ⟨L.B, L.o + (off + n.toNat * i.size), none⟩), ?_, .ptr hr⟩
          simp only [Instr.indexAt, asIntOf, Sem.run_bind, Sem.run_pure, Result.andThen_ok, run_underlying hu]
          simp [hb, run_sizeOf hi, addr_add, Nat.add_assoc]
      · cases h
    · cases h
  · rename_i len e a hu
    split at h
    · rename_i i hi
      split at h
      · rename_i hb
        cases h
        cases hx with
        | ptr hr =>
          rename_i b off L
          refine ⟨.pointer (some ⟨L.B, L.o + (off + n.toNat * i.size), none⟩), ?_, .ptr hr⟩
          simp only [Instr.indexAt, asIntOf, Sem.run_bind, Sem.run_pure, Result.andThen_ok, run_underlying hu]
          simp [hb, run_sizeOf hi, addr_add, Nat.add_assoc, Instr.sureAddr]
      · cases h
    · cases h
  · cases h

def optV (r : Ren) : Option Int → Option Value → Prop
  | none, none => True
  | some n, some v => ∃ k, v = .int k n
  | _, _ => False

theorem optA_rel (hS : SRel r env ρ) {o : Option Operand} {x : Option Int} (h : optA env o = some x) : optV r x (o.map ρ) := by
  cases o with
  | none => simp only [optA, Option.some.injEq] at h; subst h; trivial
  | some y =>
    simp only [optA] at h
    split at h
    · rename_i k n hy
      cases h
      have := hS y _ hy
      simp only [Option.map_some, optV]
      generalize ρ y = q at this
      cases this
      exact ⟨k, rfl⟩
    · cases h

theorem run_sliceBound_in (k : IntKind) (n : Int) (y : Nat) (c : BoundsCode) (h : 0 ≤ n ∧ n ≤ y) (w : World) : (Instr.sliceBound (.int k n) y c).run P w = .ok n.toNat w := by
  simp [Instr.sliceBound, asIntOf, h]

theorem run_bounds {len cap : Nat} {lo hi mx : Option Int} {lo' hi' mx' : Option Value} (h1 : optV r lo lo') (h2 : optV r hi hi') (h3 : optV r mx mx') (hm : mx.isSome → hi.isSome)
    (b1 : 0 ≤ lo.getD 0) (b2 : lo.getD 0 ≤ hi.getD len) (b3 : hi.getD len ≤ mx.getD cap) (b4 : mx.getD cap ≤ cap) (w : World) :
    (Instr.sliceBounds true len cap lo' hi' mx').run P w = .ok ((lo.getD 0).toNat, (hi.getD len).toNat, (mx.getD cap).toNat) w := by
  cases lo <;> cases lo' <;> simp only [optV] at h1 <;> cases hi <;> cases hi' <;> simp only [optV] at h2 <;> cases mx <;> cases mx' <;> simp only [optV] at h3 <;>
    first
      | exact h1.elim
      | exact h2.elim
      | exact h3.elim
      | (exfalso; simp at hm; done)
      | ((try obtain ⟨k1, rfl⟩ := h1); (try obtain ⟨k2, rfl⟩ := h2); (try obtain ⟨k3, rfl⟩ := h3)
         simp only [Option.getD_none, Option.getD_some] at b1 b2 b3 b4
         simp only [Instr.sliceBounds, Sem.run_bind, Sem.run_pure, Result.andThen_ok]
         (repeat rw [run_sliceBound_in _ _ _ _ (by omega)])
         simp (discharger := omega) [run_sliceBound_in])

theorem sliceA_sound {t : TypeId} {x x' v : Value} {lo hi mx : Option Int} {lo' hi' mx' : Option Value} (h : sliceA P t x lo hi mx H = some v) (hR : Rel base w0 r H w) (hx : VRel r x x') (h1 : optV r lo lo') (h2 : optV r hi hi') (h3 : optV r mx mx') :
    ∃ v', (Instr.sliceAt t x' lo' hi' mx').run P w = .ok v' w ∧ VRel r v v' := by
  unfold sliceA at h
  split at h
  · -- a slice with a block
    rename_i e i a n c he
    obtain ⟨hu, hinfo⟩ := elemA_some he
    cases hx with
    | sliceZ a' =>
      have base : (Instr.sliceBounds true 0 0 lo' hi' mx').run P w = .ok (0, 0, 0) w → (Instr.sliceAt t (.slice (some a') 0 0) lo' hi' mx').run P w = .ok (.slice (some a') 0 0) w := by
        intro hb
        simp only [Instr.sliceAt, Sem.run_bind, run_underlying hu, Result.andThen_ok, Instr.slice, hb, run_sizeOf hinfo, Sem.run_pure]
        simp
      have hcap0 : capA 0 0 = 0 := by rfl
      split at h
      · rename_i m
        split at h
        · rename_i hcnd
          obtain ⟨k0, k1, k2, k3, k4, k5⟩ := hcnd
          rw [hcap0] at k4
          simp only [Option.some.injEq] at h
          subst h
          have hm0 : m = 0 := by omega
          have hl0 : lo.getD 0 = 0 := by omega
          have hh0 : hi.getD (0 : Nat) = 0 := by omega
          have hb := run_bounds (P := P) (w := w) (len := 0) (cap := 0) h1 h2 h3 (fun _ => k0) k1 k2 (by simpa using k3) (by simpa using k4)
          simp only [Option.getD_some, hl0, hh0, hm0] at hb
          refine ⟨_, base hb, ?_⟩
          rw [hl0, hh0, hm0]
          exact .sliceZ a'
        · cases h
      · split at h
        · rename_i hcnd
          obtain ⟨k1, k2, k3⟩ := hcnd
          rw [hcap0] at k3
          rw [if_pos (by rw [BIG_val]; omega)] at h
          simp only [Option.some.injEq] at h
          subst h
          have hl0 : lo.getD 0 = 0 := by omega
          have hh0 : hi.getD (0 : Nat) = 0 := by omega
          have hb := run_bounds (P := P) (w := w) (len := 0) (cap := 0) h1 h2 h3 (fun hh => by cases hh) k1 k2 (by simpa using k3) (by simp)
          simp only [Option.getD_none, hl0, hh0] at hb
          refine ⟨_, base hb, ?_⟩
          rw [hl0, hh0]
          exact .sliceZ a'
        · cases h
    | slice hr ho hc =>
      rename_i b off o' c' L
      obtain ⟨hc1, hc2, hc3, hc4⟩ := hc
      have base : ∀ (l h m : Nat), (Instr.sliceBounds true n c' lo' hi' mx').run P w = .ok (l, h, m) w →
          (Instr.sliceAt t (.slice (some ⟨L.B, o', none⟩) n c') lo' hi' mx').run P w = .ok (.slice (some (if m = l then ⟨L.B, o', none⟩ else ⟨L.B, o' + l * i.size, none⟩)) (h - l) (m - l)) w := by
        intro l h m hb
        simp only [Instr.sliceAt, Sem.run_bind, run_underlying hu, Result.andThen_ok, Instr.slice, hb, run_sizeOf hinfo, Sem.run_pure]
        congr 2
        split <;> simp [addr_add]
      have hcap : ∀ m : Int, m ≤ (capA n c : Nat) → m ≤ c' := by
        intro m hm
        unfold capA at hm
        split at hm
        · rename_i hk; have := hc3 hk; omega
        · omega
      have hzero : ∀ m : Int, m ≤ (capA n c : Nat) → 0 < m → o' = L.o + off := by
        intro m hm h0
        unfold capA at hm
        rcases ho with ho | ⟨hn0, hcc, _⟩
        · exact ho
        · exfalso
          split at hm <;> rcases hcc with hcc | hcc <;> omega
      split at h
      · -- [lo:hi:mx]
        rename_i m
        split at h
        · rename_i hcnd
          obtain ⟨k0, k1, k2, k3, k4, k5⟩ := hcnd
          simp only [Option.some.injEq] at h
          subst h
          have k4' := hcap m k4
          have hb := run_bounds (P := P) (w := w) (len := n) (cap := c') h1 h2 h3 (fun _ => k0) k1 k2 (by simpa using k3) (by simpa using k4')
          simp only [Option.getD_some] at hb
          refine ⟨_, base _ _ _ hb, ?_⟩
          have hmn : (m - lo.getD 0).toNat = m.toNat - (lo.getD 0).toNat := by omega
          have hhn : (hi.getD n - lo.getD 0).toNat = (hi.getD n).toNat - (lo.getD 0).toNat := by omega
          rw [hmn, hhn]
          by_cases hml : m = lo.getD 0
          · rw [if_pos hml, if_pos (by omega)]
            have z : (hi.getD n).toNat - (lo.getD 0).toNat = 0 := by omega
            have z2 : m.toNat - (lo.getD 0).toNat = 0 := by omega
            rw [z, z2]
            refine .slice hr ?_ ⟨Nat.le_refl _, Nat.zero_le _, fun _ => rfl, fun hh => absurd hh (by rw [BIG_val]; omega)⟩
            rcases ho with rfl | ⟨_, _, h3⟩
            · exact .inl rfl
            · exact .inr ⟨rfl, .inr rfl, h3⟩
          · rw [if_neg hml, if_neg (by omega)]
            have ho2 := hzero m k4 (by omega)
            subst ho2
            exact .slice hr (.inl (by omega)) ⟨by omega, by omega, fun _ => rfl, fun hh => absurd hh (by omega)⟩
        · cases h
      · -- [lo:hi], [lo:], [:hi]
        split at h
        · rename_i hcnd
          obtain ⟨k1, k2, k3⟩ := hcnd
          have k3' := hcap _ k3
          have hb := run_bounds (P := P) (w := w) (len := n) (cap := c') h1 h2 h3 (fun hh => by cases hh) k1 k2 (by simpa using k3') (by simp)
          simp only [Option.getD_none, Int.toNat_natCast] at hb
          refine ⟨_, base _ _ _ hb, ?_⟩
          have hhn : (hi.getD n - lo.getD 0).toNat = (hi.getD n).toNat - (lo.getD 0).toNat := by omega
          split at h
          · rename_i hk
            simp only [Option.some.injEq] at h
            subst h
            have hcc := hc3 hk
            subst hcc
            rw [hhn]
            have hmn : ((c' : Int) - lo.getD 0).toNat = c' - (lo.getD 0).toNat := by omega
            rw [hmn]
            by_cases hml : (c' : Int) = lo.getD 0
            · rw [if_pos hml, if_pos (by omega)]
              have z : (hi.getD n).toNat - (lo.getD 0).toNat = 0 := by omega
              have z2 : c' - (lo.getD 0).toNat = 0 := by omega
              rw [z, z2]
              refine .slice hr ?_ ⟨Nat.le_refl _, Nat.zero_le _, fun _ => rfl, fun hh => absurd hh (by rw [BIG_val]; omega)⟩
              rcases ho with rfl | ⟨_, _, h3⟩
              · exact .inl rfl
              · exact .inr ⟨rfl, .inr rfl, h3⟩
            · rw [if_neg hml, if_neg (by omega)]
              have ho2 := hzero c' (by unfold capA; rw [if_pos hk]; omega) (by omega)
              subst ho2
              exact .slice hr (.inl (by omega)) ⟨by omega, by omega, fun _ => rfl, fun hh => absurd hh (by omega)⟩
          · rename_i hk
            split at h
            · rename_i own es cs hg
              split at h
              · rename_i hes
                simp only [Option.some.injEq] at h
                subst h
                obtain ⟨_, _, _, _, hLs, _⟩ := hR.cells hr hg
                rw [hhn]
                have hK := hc4 (by omega)
                have hLo : L.o ≤ o' := by rcases ho with rfl | ⟨_, _, h3⟩ <;> omega
                have hlc : (lo.getD 0).toNat ≤ c' := by omega
                have hmul : (c' - (lo.getD 0).toNat) * L.es + (lo.getD 0).toNat * L.es = c' * L.es := by rw [← Nat.add_mul]; congr 1; omega
                have hes2 : i.size = L.es := by rw [hLs, hes]
                rw [hes2]
                by_cases hml : c' = (lo.getD 0).toNat
                · rw [if_pos hml]
                  have z : (hi.getD n).toNat - (lo.getD 0).toNat = 0 := by omega
                  have z2 : c' - (lo.getD 0).toNat = 0 := by omega
                  rw [z, z2]
                  exact .slice hr (.inr ⟨rfl, .inl (Nat.le_refl _), hLo⟩) ⟨Nat.le_refl _, Nat.zero_le _, fun hh => absurd hh (Nat.lt_irrefl _), fun _ => by omega⟩
                · rw [if_neg hml]
                  refine .slice hr ?_ ⟨by omega, by omega, fun hh => absurd hh (Nat.lt_irrefl _), fun _ => by omega⟩
                  rcases ho with rfl | ⟨hn0, _, _⟩
                  · exact .inl (by omega)
                  · refine .inr ⟨?_, .inl (Nat.le_refl _), by omega⟩
                    have hl0 : (lo.getD 0).toNat ≤ n := by
                      unfold capA at k3
                      rw [if_neg hk] at k3
                      omega
                    unfold capA at k3
                    rw [if_neg hk] at k3
                    omega
              · cases h
            · cases h
        · cases h
  · rename_i e i he
    obtain ⟨hu, hinfo⟩ := elemA_some he
    cases hx
    split at h
    · rename_i hcnd
      obtain ⟨k1, k2, k3, k4⟩ := hcnd
      cases h
      refine ⟨.slice none 0 0, ?_, .sliceNil⟩
      have hb := run_bounds (P := P) (w := w) (len := 0) (cap := 0) h1 h2 h3 k4 (by omega) (by simp only [Int.ofNat_zero] at *; omega) (by simp only [Int.ofNat_zero] at *; omega) (by simp only [Int.ofNat_zero] at *; omega)
      simp only [Instr.sliceAt, Sem.run_bind, run_underlying hu, Result.andThen_ok, Instr.slice, hb, run_sizeOf hinfo, Sem.run_pure]
      simp only [Int.ofNat_zero] at *
      simp [k1, k2, k3]
    · cases h
  · cases h
end
end Go.Abs
