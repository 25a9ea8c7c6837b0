/-
  The abstract run: a function that computes what code does on the abstract heap; and that it says the truth.
-/
import Derived.Test.YtgopamojnoefiaaGA3
namespace Go.Abs
noncomputable section
open Go Go.RowKit
set_option linter.unusedVariables false
set_option linter.unusedSimpArgs false

inductive Job where
  | fn (f : FuncId) (args : List Value)
  | round (l : Nat) (args : List Value)

abbrev CallF := Job → Heap → Option (CRes × Heap)
abbrev Out := AExit × Env × List ADef × Heap

def evOps (P : Program) (call : CallF) (nt : Nat) (rd : Option Nat) (ops : Array Oper) : List Oper → Env → List ADef → Heap → Option Out
  | [], env, ds, H => some (.normal, env, ds, H)
  | o :: rest, env, ds, H =>
    match dstOk nt o.dst, guardA ops env o with
    | true, false => match aboutOk P env o with
      | true => evOps P call nt rd ops rest (putA env o.dst undef) ds H
      | false => none
    | true, true => match opA P env o H with
      | some (.val v, H') => evOps P call nt rd ops rest (putA env o.dst v) ds H'
      | some (.call f args, H') => match call (.fn f args) H' with
        | some (.ret v, H2) => evOps P call nt rd ops rest (putA env o.dst v) ds H2
        | some (.pan v, H2) => some (.panic v, env, ds, H2)
        | none => none
      | some (.round l args, H') => match call (.round l args) H' with
        | some (.ret v, H2) => evOps P call nt rd ops rest (putA env o.dst v) ds H2
        | some (.pan v, H2) => some (.panic v, env, ds, H2)
        | none => none
      | some (.panic v, H') => some (.panic v, env, ds, H')
      | some (.defer f args, H') => match rd.isNone with
        | true => evOps P call nt rd ops rest (putA env o.dst undef) (.fn f args :: ds) H'
        | false => none
      | _ => none
    | false, _ => none

def loopN (f : Env → List ADef → Heap → Option Out) : Nat → Env → List ADef → Heap → Option Out
  | 0, _, _, _ => none
  | m + 1, env, ds, H => match f env ds H with
    | some (.normal, env', ds', H') => loopN f m env' ds' H'
    | r => r

def rangeEnd (l : Nat) (env : Env) (ds : List ADef) : Option (CRes × Heap) → Option Out
  | some (.pan v, H) => some (.panic v, env, ds, H)
  | some (.ret _, H) => match H.get l with
    | some (.loop c) => match c.state with
      | .busy => none
      | _ => match c.pending with
        | none => some (.normal, env, ds, H.set l (.loop { c with state := .exhausted }))
        | some .ret => some (.ret, env, ds, H.set l (.loop { c with state := .exhausted }))
        | some (.exit id) => some (.exit id, env, ds, H.set l (.loop { c with state := .exhausted }))
        | _ => none
    | _ => none
  | none => none

/-! ### A region that draws its order -/
def drawOne (P : Program) (call : CallF) (nt : Nat) (ops : Array Oper) (o : Oper) (env : Env) (H : Heap) : Option (Value × Heap) :=
  match dstOk nt o.dst, guardA ops env o with
  | true, false => match aboutOk P env o with
    | true => some (undef, H)
    | false => none
  | true, true => match opA P env o H with
    | some (.val v, H') => some (v, H')
    | some (.call f args, H') => match call (.fn f args) H' with
      | some (.ret v, H2) => some (v, H2)
      | _ => none
    | _ => none
  | false, _ => none

abbrev DSt := Oper × Env × Heap × Value

def drawOps (P : Program) (call : CallF) (nt : Nat) (ops : Array Oper) : List Oper → Env → Heap → Option (List DSt × Env × Heap)
  | [], env, H => some ([], env, H)
  | o :: rest, env, H => match drawOne P call nt ops o env H with
    | some (v, H') => match drawOps P call nt ops rest (putA env o.dst v) H' with
      | some (l, e, h) => some ((o, env, H, v) :: l, e, h)
      | none => none
    | none => none

def sameAt (P : Program) (env : Env) (o : Oper) (v : Value) (H : Heap) : Bool := match opA P env o H with
  | some (.val v', _) => eqV v' v
  | _ => false

def inWin (M : List Nat) (cs : List Nat) (j i : Nat) : Bool := cs.all fun c => (!(M.getD j 0).testBit c || Nat.blt c i) && (!(M.getD c 0).testBit j || Nat.ble i c)

def cIdx : List Oper → Nat → List Nat
  | [], _ => []
  | o :: os, i => bif isC o then i :: cIdx os (i + 1) else cIdx os (i + 1)

/-- The next operation that may turn the heap. -/
def nextC : List Oper → Nat → Nat
  | [], b => b
  | o :: os, b => bif isC o then b else nextC os (b + 1)

def winTabL (M cs : List Nat) (n : Nat) : List Oper → Nat → List (Nat × List Nat)
  | [], _ => []
  | o :: os, j => bif isC o || isPure o then winTabL M cs n os (j + 1) else
    match (cs ++ [n]).filter fun i => inWin M cs j i && !Nat.beq i (nextC (o :: os) j) with
    | [] => winTabL M cs n os (j + 1)
    | x :: xs => (j, x :: xs) :: winTabL M cs n os (j + 1)

/-- What reads the heap, and ahead of which operations else it may be done, than of the next that may turn the heap. -/
def winTab (ops : Array Oper) : List (Nat × List Nat) := winTabL (befs ops.toList) (cIdx ops.toList 0) ops.size ops.toList 0

def heapAt (l : List DSt) (H' : Heap) (i : Nat) : Heap := match l[i]? with
  | some s => s.2.2.1
  | none => H'

def winAt (P : Program) (ops : Array Oper) (l : List DSt) (H' : Heap) (p : Nat × List Nat) : Bool := match l[p.1]? with
  | some (o, e, _, v) => !guardA ops e o || p.2.all fun i => sameAt P e o v (heapAt l H' i)
  | none => false

def drawEnd (P : Program) (ops : Array Oper) (ds : List ADef) (tab : List (Nat × List Nat)) : Option (List DSt × Env × Heap) → Option Out
  | some (l, env', H') => bif tab.all (winAt P ops l H') then some (.normal, env', ds, H') else none
  | none => none

/-- The allocations whose blocks are held back: which operation, which variable, which type. -/
def allocsL : List Oper → Nat → List (Nat × Nat × TypeId)
  | [], _ => []
  | o :: os, j => match o.op, o.guard, o.dst with
    | .alloc T, none, some t => (j, t, T) :: allocsL os (j + 1)
    | _, _, _ => allocsL os (j + 1)

def holdA (P : Program) : List (Nat × Nat × TypeId) → Env → Heap → Option (Env × Heap)
  | [], e, H => some (e, H)
  | (_, t, T) :: as, e, H => match zeroA P T with
    | some (z, _) => holdA P as (Tr.set e t (.pointer (some ⟨H.next, 0, none⟩))) (H.push (.cells true z.cells.size z.cells.toList))
    | none => none

/-- Nothing else names the variable ahead of the allocation. -/
def preOk (ops : Array Oper) : Bool :=
  (allocsL ops.toList 0).all fun (j, t, _) => (repl ops).toList.zipIdx.all fun (p, i) => Nat.beq i j || !(looks (repl ops) p).contains t || Nat.blt j i

def alTab (ops : Array Oper) : List (Nat × TypeId × List Nat) :=
  let M := befs (repl ops).toList
  let cs := cIdx (repl ops).toList 0
  (allocsL ops.toList 0).zipIdx.map fun (a, k) => (k, a.2.2, (cs ++ [(repl ops).size]).filter fun i => inWin M cs a.1 i)

def heldAt (P : Program) (H : Heap) (id : Nat) (T : TypeId) : Bool := match zeroA P T, H.get id with
  | some (z, _), some (.cells own es cs) => own && Nat.beq es z.cells.size && eqL cs z.cells.toList
  | _, _ => false

def drawEnd2 (P : Program) (ops : Array Oper) (ds : List ADef) (tab : List (Nat × List Nat)) (atab : List (Nat × TypeId × List Nat)) (b : Nat) : Option (List DSt × Env × Heap) → Option Out
  | some (l, env', H') => bif tab.all (winAt P ops l H') && atab.all (fun a => a.2.2.all fun i => heldAt P (heapAt l H' i) (b + a.1) a.2.1) then some (.normal, env', ds, H') else none
  | none => none

/-- What the region does once its blocks are held back. -/
def evHeld (P : Program) (call : CallF) (nt : Nat) (ops : Array Oper) (ds : List ADef) (tab : List (Nat × List Nat)) (atab : List (Nat × TypeId × List Nat)) (b : Nat) : Option (Env × Heap) → Option Out
  | some (e0, H0) => drawEnd2 P ops ds tab atab b (drawOps P call nt ops ops.toList e0 H0)
  | none => none

def evDraw (P : Program) (call : CallF) (nt : Nat) (ops : Array Oper) (env : Env) (ds : List ADef) (H : Heap) : Option Out :=
  bif P.follows .mixedOrders && ordOk ops then drawEnd P ops ds (winTab ops) (drawOps P call nt ops ops.toList env H) else
    bif P.follows .mixedOrders && ordOk (repl ops) && preOk ops then evHeld P call nt (repl ops) ds (winTab (repl ops)) (alTab ops) H.next (holdA P (allocsL ops.toList 0) env H) else none

/-- All others stand ahead of the last one. -/
def lastAfter (ops : Array Oper) : Bool := (List.range (ops.size - 1)).all fun i => ((befs ops.toList).getD (ops.size - 1) 0).testBit i

/-- The last operation of a region gives up, behind all others. -/
def drawPanT (P : Program) (call : CallF) (nt : Nat) (ops : Array Oper) (ds : List ADef) (tab : List (Nat × List Nat)) : Option Oper → Option (List DSt × Env × Heap) → Option Out
  | some o, some (l, env', H') => match dstOk nt o.dst, guardA ops env' o with
    | true, true => match opA P env' o H' with
      | some (.call f args, H1) => match call (.fn f args) H1 with
        | some (.pan v, H2) => bif tab.all (winAt P ops (l ++ [(o, env', H', undef)]) H') then some (.panic v, env', ds, H2) else none
        | _ => none
      | _ => none
    | _, _ => none
  | _, _ => none
def drawPan (P : Program) (call : CallF) (nt : Nat) (ops : Array Oper) (env : Env) (ds : List ADef) (H : Heap) : Option Out :=
  bif P.follows .mixedOrders && ordOk ops && lastAfter ops then drawPanT P call nt ops ds (winTab ops) ops.toList.getLast? (drawOps P call nt ops ops.toList.dropLast env H) else none
def orDraw : Option Out → Option Out → Option Out
  | some x, _ => some x
  | none, y => y

def evCode (P : Program) (call : CallF) (lf nt : Nat) (rd : Option Nat) : Code → Env → List ADef → Heap → Option Out
  | .skip, env, ds, H => some (.normal, env, ds, H)
  | .label _, env, ds, H => some (.normal, env, ds, H)
  | .exit id, env, ds, H => some (.exit id, env, ds, H)
  | .ret, env, ds, H => some (.ret, env, ds, H)
  | .seq a b, env, ds, H => match evCode P call lf nt rd a env ds H with
    | some (.normal, env', ds', H') => evCode P call lf nt rd b env' ds' H'
    | r => r
  | .cond c a b, env, ds, H => match evA env c with
    | some (.bool true) => evCode P call lf nt rd a env ds H
    | some (.bool false) => evCode P call lf nt rd b env ds H
    | _ => none
  | .block id c, env, ds, H => match evCode P call lf nt rd c env ds H with
    | some (.exit id', env', ds', H') => if id' = id then some (.normal, env', ds', H') else some (.exit id', env', ds', H')
    | r => r
  | .scope c, env, ds, H => evCode P call lf nt rd c env ds H
  | .loop c, env, ds, H => loopN (evCode P call lf nt rd c) lf env ds H
  | .region _ ops false, env, ds, H => evOps P call nt rd ops ops.toList env ds H
  | .region _ ops true, env, ds, H => orDraw (evDraw P call nt ops env ds H) (drawPan P call nt ops env ds H)
  | .rangeFunc f ps assign body, env, ds, H => match evA env f with
    | some (.func (.func g) first captured) => match bodied P g with
      | true => match rd with
        | none => rangeEnd (H.next + 1) env (.mark H.next :: ds) (call (.fn g (first.toList ++ [.func (.yield (H.next + 1)) #[] #[]] ++ captured.toList)) ((H.push .defs).push (theLoop P nt env ps assign body)))
        | some lo => match H.get lo with
          | some (.loop _) => rangeEnd H.next env ds (call (.fn g (first.toList ++ [.func (.yield H.next) #[] #[]] ++ captured.toList)) (H.push (theLoop P nt env ps assign body)))
          | _ => none
      | false => none
    | _ => none
  | _, _, _, _ => none

/-! ### It says the truth -/
def JobTri (P : Program) : Job → Heap → (CRes → Heap → Prop) → Prop
  | .fn f args, H, Q => TriCall P f args H Q
  | .round l args, H, Q => TriRound P l args H Q

def CallOk (P : Program) (call : CallF) : Prop := ∀ job H res H', call job H = some (res, H') → JobTri P job H (fun r h => r = res ∧ h = H')

def isOut (out : Out) : QCode := fun x e d h => (x, e, d, h) = out

variable {P : Program} {call : CallF} {lf nt : Nat} {rd : Option Nat} {env : Env} {ds : List ADef} {H : Heap}

theorem opA_val_nd {o : Oper} {v : Value} {H' : Heap} (h : opA P env o H = some (.val v, H')) : ∀ c, o.op ≠ .defer c := by
  intro c ho
  unfold opA at h
  rw [ho] at h
  simp only at h
  split at h
  · split at h
    · split at h <;> cases h
    · cases h
  · cases h
theorem opA_call_nd {o : Oper} {f : FuncId} {as : List Value} {H' : Heap} (h : opA P env o H = some (.call f as, H')) : ∀ c, o.op ≠ .defer c := by
  intro c ho
  unfold opA at h
  rw [ho] at h
  simp only at h
  split at h
  · split at h
    · split at h <;> cases h
    · cases h
  · cases h
theorem opA_round_nd {o : Oper} {f : Nat} {as : List Value} {H' : Heap} (h : opA P env o H = some (.round f as, H')) : ∀ c, o.op ≠ .defer c := by
  intro c ho
  unfold opA at h
  rw [ho] at h
  simp only at h
  split at h
  · split at h
    · split at h <;> cases h
    · cases h
  · cases h
theorem opA_panic_nd {o : Oper} {v : Value} {H' : Heap} (h : opA P env o H = some (.panic v, H')) : ∀ c, o.op ≠ .defer c := by
  intro c ho
  unfold opA at h
  rw [ho] at h
  simp only at h
  split at h
  · split at h
    · split at h <;> cases h
    · cases h
  · cases h

theorem evOps_sound (hc : CallOk P call) (ops : Array Oper) (out : Out) : ∀ (rest : List Oper) (i : Nat) (env : Env) (ds : List ADef) (H : Heap), ops.toList.drop i = rest → evOps P call nt rd ops rest env ds H = some out →
    TriOps P nt rd ops (List.range' i rest.length) env ds H (isOut out)
  | [], i, env, ds, H, _, h => by
    simp only [evOps, Option.some.injEq] at h
    exact triOps_nil h
  | o :: rest, i, env, ds, H, hd, h => by
    have ho : ops[i]? = some o := by
      have : (ops.toList.drop i)[0]? = some o := by rw [hd]; rfl
      simpa using this
    have hd' : ops.toList.drop (i + 1) = rest := by
      have : (ops.toList.drop i).drop 1 = rest := by rw [hd]; rfl
      rwa [List.drop_drop] at this
    simp only [List.length_cons, List.range'_succ]
    unfold evOps at h
    split at h
    · rename_i hdst hg
      split at h
      · rename_i hab
        exact triOps_skip ho hg hdst hab (evOps_sound hc ops out rest (i + 1) _ _ _ hd' h)
      · cases h
    · rename_i hdst hg
      split at h
      · rename_i v H' hop
        exact triOps_val ho hg hdst hop (opA_val_nd hop) (evOps_sound hc ops out rest (i + 1) _ _ _ hd' h)
      · rename_i f args H' hop
        split at h
        · rename_i v H2 hcall
          refine triOps_call ho hg hdst hop (opA_call_nd hop) (TriCall.mono (hc (.fn f args) H' (.ret v) H2 hcall) ?_)
          rintro res H3 ⟨rfl, rfl⟩
          exact evOps_sound hc ops out rest (i + 1) _ _ _ hd' h
        · rename_i v H2 hcall
          refine triOps_call ho hg hdst hop (opA_call_nd hop) (TriCall.mono (hc (.fn f args) H' (.pan v) H2 hcall) ?_)
          rintro res H3 ⟨rfl, rfl⟩
          exact Option.some.inj h
        · cases h
      · rename_i l args H' hop
        split at h
        · rename_i v H2 hcall
          refine triOps_round ho hg hdst hop (opA_round_nd hop) ?_
          intro base w0 r w as L c h1 h2 h3 h4
          refine (hc (.round l args) H' (.ret v) H2 hcall base w0 r w as L c h1 h2 h3 h4).mono ?_
          rintro e w' ⟨r', res, H3, g1, g2, g3, rfl, rfl⟩
          exact ⟨r', _, _, g1, g2, g3, evOps_sound hc ops out rest (i + 1) _ _ _ hd' h⟩
        · rename_i v H2 hcall
          refine triOps_round ho hg hdst hop (opA_round_nd hop) ?_
          intro base w0 r w as L c h1 h2 h3 h4
          refine (hc (.round l args) H' (.pan v) H2 hcall base w0 r w as L c h1 h2 h3 h4).mono ?_
          rintro e w' ⟨r', res, H3, g1, g2, g3, rfl, rfl⟩
          exact ⟨r', _, _, g1, g2, g3, Option.some.inj h⟩
        · cases h
      · rename_i v H' hop
        exact triOps_panic ho hg hop (opA_panic_nd hop) (Option.some.inj h)
      · rename_i f args H' hop
        split at h
        · rename_i hrd
          exact triOps_defer ho hg hdst hop (by simpa using hrd) (evOps_sound hc ops out rest (i + 1) _ _ _ hd' h)
        · cases h
      · cases h
    · cases h

theorem rangeEnd_sound {l : Nat} {out : Out} {res : Option (CRes × Heap)} (h : rangeEnd l env ds res = some out) : ∃ r H', res = some (r, H') ∧ ∀ r2 H2, r2 = r ∧ H2 = H' → rangeQ l env ds (isOut out) r2 H2 := by
  cases res with
  | none => cases h
  | some p =>
    obtain ⟨r, H'⟩ := p
    refine ⟨r, H', rfl, ?_⟩
    rintro r2 H2 ⟨rfl, rfl⟩
    cases r2 with
    | pan v => exact Option.some.inj h
    | ret v =>
      simp only [rangeEnd] at h
      split at h
      · rename_i c hg
        refine ⟨c, hg, ?_, ?_⟩
        · intro e; rw [e] at h; cases h
        · generalize H2.set l (.loop { c with state := .exhausted }) = S at h ⊢
          split at h
          · cases h
          · split at h
            · rename_i hp; rw [hp]; exact Option.some.inj h
            · rename_i hp; rw [hp]; exact Option.some.inj h
            · rename_i id hp; rw [hp]; exact Option.some.inj h
            · cases h
      · cases h

theorem drawOps_get (hc : CallOk P call) {ops : Array Oper} : ∀ (rest : List Oper) (env : Env) (H : Heap) (l : List DSt) (e : Env) (h : Heap), drawOps P call nt ops rest env H = some (l, e, h) →
    l.length = rest.length ∧ ∀ j o, rest[j]? = some o → ∃ E0 H0 v H1, l[j]? = some (o, E0, H0, v) ∧ drawOne P call nt ops o E0 H0 = some (v, H1) ∧
      (match l[j + 1]? with | some (_, E1, H1', _) => E1 = putA E0 o.dst v ∧ H1' = H1 | none => e = putA E0 o.dst v ∧ h = H1) ∧ (j = 0 → E0 = env ∧ H0 = H)
  | [], env, H, l, e, h, hd => by
    simp only [drawOps, Option.some.injEq, Prod.mk.injEq] at hd
    obtain ⟨rfl, rfl, rfl⟩ := hd
    exact ⟨rfl, fun j o hj => by simp at hj⟩
  | o :: rest, env, H, l, e, h, hd => by
    unfold drawOps at hd
    split at hd
    · rename_i v H' h1
      split at hd
      · rename_i l' e' h' hr
        simp only [Option.some.injEq, Prod.mk.injEq] at hd
        obtain ⟨rfl, rfl, rfl⟩ := hd
        obtain ⟨hl, ih⟩ := drawOps_get hc rest _ _ _ _ _ hr
        refine ⟨by simp [hl], ?_⟩
        intro j o' hj
        cases j with
        | zero =>
          simp at hj; subst hj
          refine ⟨env, H, v, H', rfl, h1, ?_, fun _ => ⟨rfl, rfl⟩⟩
          cases rest with
          | nil =>
            simp only [drawOps, Option.some.injEq, Prod.mk.injEq] at hr
            obtain ⟨rfl, rfl, rfl⟩ := hr
            exact ⟨rfl, rfl⟩
          | cons o2 rest =>
            obtain ⟨E0, H0, v0, H1, g1, _, _, g4⟩ := ih 0 o2 rfl
            obtain ⟨rfl, rfl⟩ := g4 rfl
            simp only [Nat.zero_add, List.getElem?_cons_succ, g1]
            exact ⟨trivial, trivial⟩
        | succ j =>
          simp at hj
          obtain ⟨E0, H0, v0, H1, g1, g2, g3, _⟩ := ih j o' hj
          exact ⟨E0, H0, v0, H1, by simpa using g1, g2, by simpa using g3, fun e => by cases e⟩
      · cases hd
    · cases hd

theorem cIdx_mem : ∀ (os : List Oper) (b c : Nat), c ∈ cIdx os b → ∃ p, os[c - b]? = some p ∧ isC p = true ∧ b ≤ c
  | [], b, c, h => by simp [cIdx] at h
  | o :: os, b, c, h => by
    have step : c ∈ cIdx os (b + 1) → ∃ p, (o :: os)[c - b]? = some p ∧ isC p = true ∧ b ≤ c := by
      intro h
      obtain ⟨p, h1, h2, h3⟩ := cIdx_mem os (b + 1) c h
      refine ⟨p, ?_, h2, by omega⟩
      rw [show c - b = (c - (b + 1)) + 1 by omega]; simpa using h1
    unfold cIdx at h
    cases hc : isC o with
    | false => rw [hc] at h; exact step h
    | true =>
      rw [hc] at h
      rcases List.mem_cons.1 h with rfl | h
      · exact ⟨o, by simp, hc, Nat.le_refl _⟩
      · exact step h

theorem cIdx_mem' : ∀ (os : List Oper) (b i : Nat) (p : Oper), os[i]? = some p → isC p = true → b + i ∈ cIdx os b
  | [], b, i, p, h, _ => by simp at h
  | o :: os, b, i, p, h, hc => by
    cases i with
    | zero => simp at h; subst h; unfold cIdx; rw [hc]; simp
    | succ i =>
      simp at h
      have := cIdx_mem' os (b + 1) i p h hc
      rw [show b + (i + 1) = b + 1 + i by omega]
      unfold cIdx
      cases isC o <;> simp [this]

theorem nextC_spec : ∀ (os : List Oper) (b : Nat), b ≤ nextC os b ∧ (∀ i p, b + i < nextC os b → os[i]? = some p → isC p = false) ∧ nextC os b ≤ b + os.length
  | [], b => ⟨Nat.le_refl _, fun i p _ h => by simp at h, by simp [nextC]⟩
  | o :: os, b => by
    obtain ⟨h1, h2, h3⟩ := nextC_spec os (b + 1)
    unfold nextC
    cases hc : isC o with
    | true => refine ⟨Nat.le_refl _, fun i p hi _ => ?_, by simp⟩; simp only [cond_true] at hi; omega
    | false =>
      simp only [cond_false, List.length_cons]
      refine ⟨by omega, fun i p hi hp => ?_, by omega⟩
      cases i with
      | zero => simp at hp; subst hp; exact hc
      | succ i => simp at hp; exact h2 i p (by omega) hp

theorem winTabL_mem {M cs : List Nat} {n : Nat} : ∀ (os : List Oper) (b j i : Nat) (o : Oper), os[j]? = some o → isC o = false → isPure o = false → i ∈ cs ++ [n] → inWin M cs (b + j) i = true → i = nextC (os.drop j) (b + j) ∨ ∃ is, (b + j, is) ∈ winTabL M cs n os b ∧ i ∈ is
  | [], b, j, i, o, h, _, _, _, _ => by simp at h
  | o' :: os, b, j, i, o, h, h1, h2, hi, hw => by
    cases j with
    | zero =>
      simp at h; subst h
      by_cases hn : i = nextC (o' :: os) b
      · exact .inl (by simpa using hn)
      · refine .inr ?_
        unfold winTabL
        rw [h1, h2]
        simp only [Bool.or_self, cond_false]
        have hm : i ∈ (cs ++ [n]).filter fun i => inWin M cs b i && !Nat.beq i (nextC (o' :: os) b) := by
          rw [List.mem_filter]
          refine ⟨hi, ?_⟩
          rw [show inWin M cs b i = true from hw]
          cases hb : Nat.beq i (nextC (o' :: os) b) with
          | true => exact absurd (Nat.eq_of_beq_eq_true hb) hn
          | false => rfl
        split
        · rename_i hf; rw [hf] at hm; simp at hm
        · rename_i x xs hf; rw [hf] at hm; exact ⟨_, List.mem_cons_self .., hm⟩
    | succ j =>
      simp at h
      rcases winTabL_mem os (b + 1) j i o h h1 h2 hi (by rw [show b + 1 + j = b + (j + 1) by omega]; exact hw) with h | ⟨is, g1, g2⟩
      · left; rw [h, List.drop_succ_cons, show b + 1 + j = b + (j + 1) by omega]
      · refine .inr ⟨is, ?_, g2⟩
        rw [show b + 1 + j = b + (j + 1) by omega] at g1
        unfold winTabL
        cases (isC o' || isPure o') with
        | true => exact g1
        | false =>
          simp only [cond_false]
          split
          · exact g1
          · exact List.mem_cons_of_mem _ g1

def drE (l : List DSt) (env' : Env) (j : Nat) : Env := match l[j]? with | some s => s.2.1 | none => env'
def drV (l : List DSt) (j : Nat) : Value := match l[j]? with | some s => s.2.2.2 | none => undef

/-- What the text's run shows. -/
theorem draw_run (hc : CallOk P call) {ops : Array Oper} {l : List DSt} {env' : Env} {H' : Heap} (hd : drawOps P call nt ops ops.toList env H = some (l, env', H')) (hw : (winTab ops).all (winAt P ops l H') = true) :
    drE l env' 0 = env ∧ heapAt l H' 0 = H ∧ (∀ j o, ops[j]? = some o → StepOk P nt ops (drE l env') (heapAt l H') (drV l) j o) ∧ (∀ j o, ops[j]? = some o → WinOk P ops (drE l env') (heapAt l H') (drV l) j o) ∧
    drE l env' ops.size = env' ∧ heapAt l H' ops.size = H' := by
  obtain ⟨hlen, hget⟩ := drawOps_get hc _ _ _ _ _ _ hd
  have hlen : l.length = ops.size := by simpa using hlen
  have toL : ∀ {j : Nat} {o : Oper}, ops[j]? = some o → ops.toList[j]? = some o := fun h => by simpa using h
  have hstep : ∀ j o, ops[j]? = some o → StepOk P nt ops (drE l env') (heapAt l H') (drV l) j o := by
    intro j o ho
    obtain ⟨E0, H0, v, H1, g1, g2, g3, _⟩ := hget j o (toL ho)
    have e1 : drE l env' (j + 1) = putA E0 o.dst v := by
      unfold drE
      cases hj : l[j + 1]? with
      | none => rw [hj] at g3; exact g3.1
      | some s => rw [hj] at g3; exact g3.1
    have e2 : heapAt l H' (j + 1) = H1 := by
      unfold heapAt
      cases hj : l[j + 1]? with
      | none => rw [hj] at g3; exact g3.2
      | some s => rw [hj] at g3; exact g3.2
    have e3 : heapAt l H' j = H0 := by unfold heapAt; rw [g1]
    have e4 : drE l env' j = E0 := by unfold drE; rw [g1]
    have e5 : drV l j = v := by unfold drV; rw [g1]
    simp only [StepOk, e1, e2, e3, e4, e5]
    unfold drawOne at g2
    split at g2
    · rename_i hdst hg
      split at g2
      · rename_i hab
        simp only [Option.some.injEq, Prod.mk.injEq] at g2
        obtain ⟨rfl, rfl⟩ := g2
        exact ⟨hdst, .inl ⟨hg, hab, rfl, rfl⟩⟩
      · cases g2
    · rename_i hdst hg
      refine ⟨hdst, .inr ⟨hg, trivial, ?_⟩⟩
      split at g2
      · rename_i v' H2 hop
        simp only [Option.some.injEq, Prod.mk.injEq] at g2
        obtain ⟨rfl, rfl⟩ := g2
        exact .inl hop
      · rename_i f args H2 hop
        split at g2
        · rename_i v' H3 hcall
          simp only [Option.some.injEq, Prod.mk.injEq] at g2
          obtain ⟨rfl, rfl⟩ := g2
          exact .inr ⟨f, args, H2, hop, hc (.fn f args) H2 _ _ hcall⟩
        · cases g2
      · cases g2
    · cases g2
  refine ⟨?_, ?_, hstep, ?_, by unfold drE; rw [List.getElem?_eq_none (by omega)], by unfold heapAt; rw [List.getElem?_eq_none (by omega)]⟩
  · unfold drE
    cases hn : ops.toList with
    | nil => rw [hn] at hd; simp only [drawOps, Option.some.injEq, Prod.mk.injEq] at hd; obtain ⟨rfl, rfl, rfl⟩ := hd; rfl
    | cons o os => obtain ⟨E0, H0, v, H1, g1, _, _, g4⟩ := hget 0 o (by rw [hn]; rfl); simp only [g1]; exact (g4 rfl).1
  · unfold heapAt
    cases hn : ops.toList with
    | nil => rw [hn] at hd; simp only [drawOps, Option.some.injEq, Prod.mk.injEq] at hd; obtain ⟨rfl, rfl, rfl⟩ := hd; rfl
    | cons o os => obtain ⟨E0, H0, v, H1, g1, _, _, g4⟩ := hget 0 o (by rw [hn]; rfl); simp only [g1]; exact (g4 rfl).2
  · intro j o ho h1 h2 h3 i hi hi2 hpre hpost
    obtain ⟨E0, H0, v, H1, g1, g2, g3, _⟩ := hget j o (toL ho)
    have hj : j < ops.size := (Array.getElem?_eq_some_iff.1 ho).1
    have hin : inWin (befs ops.toList) (cIdx ops.toList 0) (0 + j) i = true := by
      unfold inWin
      rw [List.all_eq_true]
      intro c hcm
      obtain ⟨p, hp, hpc, _⟩ := cIdx_mem _ _ _ hcm
      have hp' : ops[c]? = some p := by simpa using hp
      rw [Nat.zero_add, Bool.and_eq_true]
      constructor
      · cases hb : ((befs ops.toList).getD j 0).testBit c with
        | false => rfl
        | true => simp only [Bool.not_true, Bool.false_or, Nat.blt_eq]; exact hpre c p hp' hpc hb
      · cases hb : ((befs ops.toList).getD c 0).testBit j with
        | false => rfl
        | true => simp only [Bool.not_true, Bool.false_or, Nat.ble_eq]; exact hpost c p hp' hpc hb
    have hmem : i ∈ cIdx ops.toList 0 ++ [ops.size] := by
      rcases hi2 with rfl | ⟨p, hp, hpc⟩
      · simp
      · have := cIdx_mem' ops.toList 0 i p (toL hp) hpc
        rw [Nat.zero_add] at this
        exact List.mem_append_left _ this
    -- at its own place
    have hown : opA P E0 o H0 = some (.val v, H0) := by
      obtain ⟨_, hh⟩ := hstep j o ho
      have e3 : heapAt l H' j = H0 := by unfold heapAt; rw [g1]
      rcases hh with ⟨hg, _⟩ | ⟨hg, _, hh | ⟨f, args, H2, hh, _⟩⟩
      · rw [h3] at hg; cases hg
      · simp only [drE, drV, g1, e3] at hh
        rw [hh, (nonC_heap h1 hh).2]
      · obtain ⟨⟨v, hv⟩, _⟩ := nonC_heap h1 hh; cases hv
    simp only [drE, drV, g1] at h3 ⊢
    rcases winTabL_mem ops.toList 0 j i o (toL ho) h1 h2 hmem hin with hn | ⟨is, hm, his⟩
    · -- the heap is the same
      obtain ⟨n1, n2, n3⟩ := nextC_spec (ops.toList.drop j) (0 + j)
      have hsame : ∀ m, j + m ≤ i → heapAt l H' (j + m) = H0 := by
        intro m
        induction m with
        | zero => intro _; show heapAt l H' j = H0; unfold heapAt; rw [g1]
        | succ m ihm =>
          intro hm
          rw [← ihm (by omega)]
          have hk : j + m < ops.size := by omega
          have hok := Array.getElem?_eq_getElem hk
          have hcm : isC ops[j + m] = false := by
            refine n2 m _ (by rw [← hn]; omega) ?_
            rw [List.getElem?_drop]
            simp
          rcases (hstep (j + m) _ hok).2 with ⟨_, _, _, e⟩ | ⟨_, _, e | ⟨f, args, H2, e, _⟩⟩
          · exact e
          · exact (nonC_heap hcm e).2
          · obtain ⟨⟨v, hv⟩, _⟩ := nonC_heap hcm e; cases hv
      have hji : j ≤ i := by omega
      have := hsame (i - j) (by omega)
      rw [show j + (i - j) = i by omega] at this
      rw [this]; exact hown
    · rw [List.all_eq_true] at hw
      rw [Nat.zero_add] at hm
      have := hw _ hm
      unfold winAt at this
      simp only [g1, h3, Bool.not_true, Bool.false_or] at this
      rw [List.all_eq_true] at this
      have := this i his
      unfold sameAt at this
      split at this
      · rename_i v' H4 hop
        rw [eqV_eq this] at hop
        rw [hop]
        rw [(nonC_heap h1 hop).2]
      · cases this

theorem allocsL_mem : ∀ (os : List Oper) (b k j : Nat) (t : Nat) (T : TypeId), (allocsL os b)[k]? = some (j, t, T) → b ≤ j ∧ ∃ o, os[j - b]? = some o ∧ isAl o = true ∧ o.dst = some t ∧ o.op = .alloc T
  | [], b, k, j, t, T, h => by simp [allocsL] at h
  | o :: os, b, k, j, t, T, h => by
    have step : ∀ (k' : Nat), (allocsL os (b + 1))[k']? = some (j, t, T) → b ≤ j ∧ ∃ p, (o :: os)[j - b]? = some p ∧ isAl p = true ∧ p.dst = some t ∧ p.op = .alloc T := by
      intro k' hk
      obtain ⟨h1, p, h2, h3⟩ := allocsL_mem os (b + 1) k' j t T hk
      refine ⟨by omega, p, ?_, h3⟩
      rw [show j - b = (j - (b + 1)) + 1 by omega]; simpa using h2
    unfold allocsL at h
    split at h
    · rename_i T' t' h1 h2 h3
      cases k with
      | zero =>
        simp only [List.getElem?_cons_zero, Option.some.injEq, Prod.mk.injEq] at h
        obtain ⟨rfl, rfl, rfl⟩ := h
        exact ⟨Nat.le_refl _, o, by simp, by unfold isAl; rw [h1, h2, h3], h3, h1⟩
      | succ k => simp only [List.getElem?_cons_succ] at h; exact step k h
    · exact step k h

theorem allocsL_has : ∀ (os : List Oper) (b j : Nat) (o : Oper), os[j]? = some o → isAl o = true → ∃ (k : Nat) (t : Nat) (T : TypeId), (allocsL os b)[k]? = some (b + j, t, T)
  | [], b, j, o, h, _ => by simp at h
  | o' :: os, b, j, o, h, ha => by
    cases j with
    | zero =>
      simp at h; subst h
      unfold isAl at ha
      split at ha
      · rename_i T t h1 h2 h3
        refine ⟨0, t, T, ?_⟩
        unfold allocsL; rw [h1, h2, h3]; rfl
      · cases ha
    | succ j =>
      simp at h
      obtain ⟨k, t, T, hk⟩ := allocsL_has os (b + 1) j o h ha
      rw [show b + 1 + j = b + (j + 1) by omega] at hk
      unfold allocsL
      split
      · exact ⟨k + 1, t, T, by simpa using hk⟩
      · exact ⟨k, t, T, hk⟩

theorem allocsL_inj (os : List Oper) (b k k' : Nat) (a a' : Nat × Nat × TypeId) (h : (allocsL os b)[k]? = some a) (h' : (allocsL os b)[k']? = some a') (he : a.1 = a'.1) : k = k' := by
  have mono : ∀ (os : List Oper) (b k k' : Nat) (a a' : Nat × Nat × TypeId), k < k' → (allocsL os b)[k]? = some a → (allocsL os b)[k']? = some a' → a.1 < a'.1 := by
    intro os
    induction os with
    | nil => intro b k k' a a' _ h; simp [allocsL] at h
    | cons o os ih =>
      intro b k k' a a' hlt h h'
      unfold allocsL at h h'
      split at h
      · rename_i T t h1 h2 h3
        rw [h1, h2, h3] at h'
        simp only at h'
        cases k' with
        | zero => omega
        | succ k' =>
          simp only [List.getElem?_cons_succ] at h'
          cases k with
          | zero =>
            simp only [List.getElem?_cons_zero, Option.some.injEq] at h
            subst h
            obtain ⟨j', t', T'⟩ := a'
            have := (allocsL_mem _ _ _ _ _ _ h').1
            show b < j'
            omega
          | succ k => simp only [List.getElem?_cons_succ] at h; exact ih (b + 1) k k' a a' (by omega) h h'
      · rename_i hn
        split at h'
        · rename_i T t h1 h2 h3; exact absurd h3 (hn _ _ h1 h2)
        · exact ih (b + 1) k k' a a' hlt h h'
  rcases Nat.lt_trichotomy k k' with hlt | e | hgt
  · have := mono os b k k' a a' hlt h h'; omega
  · exact e
  · have := mono os b k' k a' a hgt h' h; omega

theorem Rel.hold_n {base : Nat} {w0 w : World} {r : Ren} (h : Rel base w0 r H w) {n : Nat} (hn : n ≤ H.next) : Rel base w0 (r.hold n) H w :=
  ⟨h.below, h.le, fun b L hb => let ⟨ob, h1, h2⟩ := h.dom b L hb; ⟨ob, h1, h2.inc (Inc.of_eq rfl) rfl⟩, h.inj, h.wf, Nat.max_le.2 ⟨h.rn, hn⟩⟩

theorem hold_hold (r : Ren) {m n : Nat} (h : m ≤ n) : (r.hold m).hold n = r.hold n := by
  simp only [Ren.hold, Ren.mk.injEq, true_and]
  show max (max r.n m) n = max r.n n
  omega

theorem holdA_spec : ∀ (as : List (Nat × Nat × TypeId)) (e : Env) (H : Heap) (e0 : Env) (H0 : Heap), holdA P as e H = some (e0, H0) →
    H0.next = H.next + as.length ∧ (∀ base w0 r w, Rel base w0 r H w → Rel base w0 (r.hold H0.next) H0 w) ∧ (∀ t, (∀ a ∈ as, a.2.1 ≠ t) → e0.val t = e.val t) ∧
    ((∀ (k k' : Nat) (a a' : Nat × Nat × TypeId), as[k]? = some a → as[k']? = some a' → a.2.1 = a'.2.1 → k = k') → ∀ (k : Nat) a, as[k]? = some a → e0.val a.2.1 = .pointer (some ⟨H.next + k, 0, none⟩) ∧ ∃ z n, zeroA P a.2.2 = some (z, n))
  | [], e, H, e0, H0, h => by
    simp only [holdA, Option.some.injEq, Prod.mk.injEq] at h
    obtain ⟨rfl, rfl⟩ := h
    exact ⟨rfl, fun base w0 r w hR => hR.hold_n (Nat.le_refl _), fun _ _ => rfl, fun _ k a hk => by simp at hk⟩
  | (j, t, T) :: as, e, H, e0, H0, h => by
    unfold holdA at h
    split at h
    · rename_i z n hz
      obtain ⟨h1, h2, h3, h4⟩ := holdA_spec as _ _ _ _ h
      rw [Heap.next_push] at h1
      refine ⟨by rw [h1, List.length_cons]; omega, ?_, ?_, ?_⟩
      · intro base w0 r w hR
        have := h2 base w0 _ w (hR.reserve (.cells true z.cells.size z.cells.toList))
        rwa [hold_hold r (m := H.next + 1) (n := H0.next) (by omega)] at this
      · intro u hu
        rw [h3 u (fun a ha => hu a (List.mem_cons_of_mem _ ha)), Env.val_set, if_neg (fun e => hu (j, t, T) (List.mem_cons_self ..) e.symm)]
      · intro hnd k a hk
        cases k with
        | zero =>
          simp only [List.getElem?_cons_zero, Option.some.injEq] at hk
          subst hk
          refine ⟨?_, z, n, hz⟩
          rw [h3 t, Env.val_set, if_pos rfl]
          · rfl
          · intro a ha he
            obtain ⟨k', hk'⟩ := List.getElem?_of_mem ha
            have := hnd (k' + 1) 0 a (j, t, T) (by simpa using hk') rfl he
            omega
        | succ k =>
          simp only [List.getElem?_cons_succ] at hk
          have := h4 (fun k k' a a' hk hk' e => by have := hnd (k + 1) (k' + 1) a a' (by simpa using hk) (by simpa using hk') e; omega) k a hk
          rw [Heap.next_push, show H.next + 1 + k = H.next + (k + 1) by omega] at this
          exact this
    · cases h

theorem eqL_eq' {a : List Value} {b : List Value} (h : eqL a b = true) : a = b := eqL_eq h

theorem evDraw_sound (hc : CallOk P call) {id : Nat} {ops : Array Oper} {out : Out} (h : evDraw P call nt ops env ds H = some out) : Tri P nt rd (.region id ops true) env ds H (isOut out) := by
  unfold evDraw at h
  cases h0 : (P.follows .mixedOrders && ordOk ops) with
  | true =>
    rw [h0] at h
    rw [Bool.and_eq_true] at h0
    simp only [cond_true] at h
    unfold drawEnd at h
    split at h
    · rename_i l env' H' hd
      cases hw : (winTab ops).all (winAt P ops l H') with
      | false => rw [hw] at h; cases h
      | true =>
        rw [hw] at h
        simp only [cond_true, Option.some.injEq] at h
        obtain ⟨r1, r2, r3, r4, r5, r6⟩ := draw_run hc hd hw
        refine tri_draw (E := drE l env') (HH := heapAt l H') (V := drV l) h0.1 (ordOk_ord h0.2) r1 r2 r3 r4 ?_
        rw [r5, r6]; exact h
    · cases h
  | false =>
    rw [h0] at h
    simp only [cond_false] at h
    cases h1 : (P.follows .mixedOrders && ordOk (repl ops) && preOk ops) with
    | false => rw [h1] at h; cases h
    | true =>
      rw [h1] at h
      rw [Bool.and_eq_true, Bool.and_eq_true] at h1
      obtain ⟨⟨hm, hord⟩, hpo⟩ := h1
      simp only [cond_true] at h
      unfold evHeld at h
      split at h
      · rename_i e0 H0 hh
        unfold drawEnd2 at h
        split at h
        · rename_i l env' H' hd
          cases hw : (winTab (repl ops)).all (winAt P (repl ops) l H') with
          | false => rw [hw] at h; cases h
          | true =>
            rw [hw, Bool.true_and] at h
            cases ha : ((alTab ops).all fun a => a.2.2.all fun i => heldAt P (heapAt l H' i) (H.next + a.1) a.2.1) with
            | false => rw [ha] at h; cases h
            | true =>
              rw [ha] at h
              simp only [cond_true, Option.some.injEq] at h
              obtain ⟨r1, r2, r3, r4, r5, r6⟩ := draw_run hc hd hw
              obtain ⟨s1, s2, s3, s4⟩ := holdA_spec _ _ _ _ _ hh
              have toL : ∀ {j : Nat} {o : Oper}, ops[j]? = some o → ops.toList[j]? = some o := fun h => by simpa using h
              have mem : ∀ {k j : Nat} {t : Nat} {T : TypeId}, (allocsL ops.toList 0)[k]? = some (j, t, T) → ∃ o, ops[j]? = some o ∧ isAl o = true ∧ o.dst = some t ∧ o.op = .alloc T := fun hk => by
                obtain ⟨_, o, g1, g2⟩ := allocsL_mem _ _ _ _ _ _ hk
                exact ⟨o, by simpa using g1, g2⟩
              have has : ∀ {j : Nat} {o : Oper}, ops[j]? = some o → isAl o = true → ∃ (k : Nat) (t : Nat) (T : TypeId), (allocsL ops.toList 0)[k]? = some (j, t, T) := fun ho ha => by
                have := allocsL_has ops.toList 0 _ _ (toL ho) ha
                simpa using this
              have hpr : ∀ (j : Nat) (o : Oper), ops[j]? = some o → isAl o = true → ∀ t, o.dst = some t → ∀ (i : Nat) (p : Oper), (repl ops)[i]? = some p → t ∈ looks (repl ops) p → i ≠ j → j < i := by
                intro j o ho hal t ht i p hp hl hij
                obtain ⟨k, t', T, hk⟩ := has ho hal
                obtain ⟨o2, g1, _, g3, _⟩ := mem hk
                rw [ho] at g1; cases g1
                rw [ht] at g3; cases g3
                unfold preOk at hpo
                rw [List.all_eq_true] at hpo
                have := zipIdx_all (hpo _ (List.mem_of_getElem? hk)) (j := i) (x := p) (by simpa using hp)
                simp only [Bool.or_eq_true, Nat.blt_eq, Bool.not_eq_true'] at this
                rcases this with (h | h) | h
                · exact absurd (Nat.eq_of_beq_eq_true h) hij
                · rw [← Bool.not_eq_true, List.contains_iff_mem] at h; exact absurd hl h
                · exact h
              have repc : ∀ {j : Nat} {o : Oper}, ops[j]? = some o → (repl ops)[j]? = some (replOp o) := fun h => by rw [repl_get, h]; rfl
              have uniq : ∀ (k k' : Nat) (a a' : Nat × Nat × TypeId), (allocsL ops.toList 0)[k]? = some a → (allocsL ops.toList 0)[k']? = some a' → a.2.1 = a'.2.1 → k = k' := by
                rintro k k' ⟨j, t, T⟩ ⟨j', t', T'⟩ hk hk' he
                simp only at he; subst he
                obtain ⟨o, g1, g2, g3, g4⟩ := mem hk
                obtain ⟨o', g1', g2', g3', g4'⟩ := mem hk'
                have hjj : j = j' := by
                  rcases Nat.lt_trichotomy j j' with hlt | e | hgt
                  · have := hpr j' o' g1' g2' t g3' j _ (repc g1) (by simp [looks, replOp_dst, g3]) (by omega); omega
                  · exact e
                  · have := hpr j o g1 g2 t g3 j' _ (repc g1') (by simp [looks, replOp_dst, g3']) (by omega); omega
                subst hjj
                exact allocsL_inj _ _ _ _ _ _ hk hk' rfl
              obtain ⟨pos, hpos⟩ : ∃ pos : Nat → Nat, ∀ j o, ops[j]? = some o → isAl o = true → ∃ (t : Nat) (T : TypeId), (allocsL ops.toList 0)[pos j]? = some (j, t, T) := by
                have : ∀ j, ∃ p : Nat, ∀ o, ops[j]? = some o → isAl o = true → ∃ (t : Nat) (T : TypeId), (allocsL ops.toList 0)[p]? = some (j, t, T) := by
                  intro j
                  cases hoj : ops[j]? with
                  | none => exact ⟨0, fun o h => by cases h⟩
                  | some o =>
                    cases hal : isAl o with
                    | false => exact ⟨0, fun o' h hal' => by cases h; rw [hal] at hal'; cases hal'⟩
                    | true =>
                      obtain ⟨k, h⟩ := has hoj hal
                      exact ⟨k, fun _ _ _ => h⟩
                exact ⟨fun j => Classical.choose (this j), fun j => Classical.choose_spec (this j)⟩
              refine tri_draw2 (E := drE l env') (HH := heapAt l H') (V := drV l) (ids := fun j => H.next + pos j) rfl hm (ordOk_ord hord) hpr ?_ r3 r4 ?_ ?_ ?_ ?_
              · intro t hn
                rw [r1]
                refine s3 t ?_
                rintro ⟨j, t', T⟩ hmem he
                simp only at he; subst he
                obtain ⟨k, hk⟩ := List.getElem?_of_mem hmem
                obtain ⟨o, g1, g2, g3, _⟩ := mem hk
                exact hn j o g1 g2 g3
              · intro j o ho hal
                obtain ⟨t, T, hk⟩ := hpos j o ho hal
                obtain ⟨o2, g1, _, g3, g4⟩ := mem hk
                rw [ho] at g1; cases g1
                obtain ⟨q1, z, n, q2⟩ := s4 uniq _ _ hk
                have hlt : pos j < (allocsL ops.toList 0).length := (List.getElem?_eq_some_iff.1 hk).1
                refine ⟨t, T, z, n, g3, g4, q2, by rw [r1]; exact q1, by omega, by rw [r2, s1]; omega, ?_⟩
                intro i hi hi2 hpre hpost
                rw [List.all_eq_true] at ha
                have hent : (pos j, T, (cIdx (repl ops).toList 0 ++ [(repl ops).size]).filter fun i => inWin (befs (repl ops).toList) (cIdx (repl ops).toList 0) j i) ∈ alTab ops := by
                  unfold alTab
                  rw [List.mem_map]
                  refine ⟨((j, t, T), pos j), ?_, rfl⟩
                  rw [List.mem_iff_getElem?]
                  exact ⟨pos j, by rw [List.getElem?_zipIdx, hk]; simp⟩
                have := ha _ hent
                rw [List.all_eq_true] at this
                have := this i (by
                  rw [List.mem_filter]
                  refine ⟨?_, ?_⟩
                  · rcases hi2 with rfl | ⟨p, hp, hpc⟩
                    · simp
                    · have := cIdx_mem' (repl ops).toList 0 i p (by simpa using hp) hpc
                      rw [Nat.zero_add] at this
                      exact List.mem_append_left _ this
                  · unfold inWin
                    rw [List.all_eq_true]
                    intro c hcm
                    obtain ⟨p, hp, hpc, _⟩ := cIdx_mem _ _ _ hcm
                    have hp' : (repl ops)[c]? = some p := by simpa using hp
                    rw [Bool.and_eq_true]
                    constructor
                    · cases hb : ((befs (repl ops).toList).getD j 0).testBit c with
                      | false => rfl
                      | true => simp only [Bool.not_true, Bool.false_or, Nat.blt_eq]; exact hpre c p hp' hpc hb
                    · cases hb : ((befs (repl ops).toList).getD c 0).testBit j with
                      | false => rfl
                      | true => simp only [Bool.not_true, Bool.false_or, Nat.ble_eq]; exact hpost c p hp' hpc hb)
                unfold heldAt at this
                rw [q2] at this
                simp only at this
                split at this
                · rename_i z' n' own es cs hzz hgg
                  cases hzz
                  simp only [Bool.and_eq_true] at this
                  rw [hgg, this.1.1, Nat.eq_of_beq_eq_true this.1.2, eqL_eq this.2]
                · cases this
              · intro j k o p ho hp ha1 ha2 he
                obtain ⟨t, T, hk⟩ := hpos j o ho ha1
                obtain ⟨t', T', hk'⟩ := hpos k p hp ha2
                have : pos j = pos k := by omega
                rw [this, hk'] at hk
                cases hk; rfl
              · intro base w0 r w hR
                rw [r2]; exact s2 base w0 r w hR
              · rw [r5, r6]; exact h
        · cases h
      · cases h

/-- What the text's run shows, ahead of the last operation. -/
theorem draw_runP (hc : CallOk P call) {ops : Array Oper} {l0 : List DSt} {env' : Env} {H' : Heap} {o0 : Oper} (hpre : ops.toList = ops.toList.dropLast ++ [o0]) (hC0 : isC o0 = true) (hanc : ∀ i, i < ops.toList.dropLast.length → ((befs ops.toList).getD ops.toList.dropLast.length 0).testBit i = true)
    (hd : drawOps P call nt ops ops.toList.dropLast env H = some (l0, env', H')) (hw : (winTab ops).all (winAt P ops (l0 ++ [(o0, env', H', undef)]) H') = true) {l : List DSt} (hl : l = l0 ++ [(o0, env', H', undef)]) {e' : Env} (he : e' = putA env' o0.dst undef) :
    ops.size = ops.toList.dropLast.length + 1 ∧ drE l e' 0 = env ∧ heapAt l H' 0 = H ∧ (∀ j o, j < ops.toList.dropLast.length → ops[j]? = some o → StepOk P nt ops (drE l e') (heapAt l H') (drV l) j o) ∧ (∀ j o, j < ops.toList.dropLast.length → ops[j]? = some o → WinOk P ops (drE l e') (heapAt l H') (drV l) j o) ∧
    drE l e' ops.toList.dropLast.length = env' ∧ heapAt l H' ops.toList.dropLast.length = H' ∧ drE l e' (ops.toList.dropLast.length + 1) = e' := by
  obtain ⟨hlen0, hget0⟩ := drawOps_get hc _ _ _ _ _ _ hd
  have hsz : ops.size = ops.toList.dropLast.length + 1 := by
    have := congrArg List.length hpre
    simpa using this
  generalize hP : ops.toList.dropLast = pre at *
  have hlen : l.length = ops.size := by rw [hl]; simp; omega
  have h0 : ops[pre.length]? = some o0 := by
    have : ops.toList[pre.length]? = some o0 := by rw [hpre]; simp
    simpa using this
  have lo : ∀ j, j < pre.length → l[j]? = l0[j]? := fun j hj => by rw [hl, List.getElem?_append_left (by omega)]
  have ll : l[pre.length]? = some (o0, env', H', undef) := by rw [hl, List.getElem?_append_right (by omega), hlen0]; simp
  have toP : ∀ (j : Nat) (o : Oper), j < pre.length → ops[j]? = some o → pre[j]? = some o := by
    intro j o hj h
    have h2 : ops.toList[j]? = some o := by simpa using h
    rw [hpre, List.getElem?_append_left hj] at h2
    exact h2
  have toL : ∀ {j : Nat} {o : Oper}, ops[j]? = some o → ops.toList[j]? = some o := fun h => by simpa using h
  have hget : ∀ j o, j < pre.length → ops[j]? = some o → ∃ E0 H0 v H1, l[j]? = some (o, E0, H0, v) ∧ drawOne P call nt ops o E0 H0 = some (v, H1) ∧
      (match l[j + 1]? with | some (_, E1, H1', _) => E1 = putA E0 o.dst v ∧ H1' = H1 | none => e' = putA E0 o.dst v ∧ H' = H1) ∧ (j = 0 → E0 = env ∧ H0 = H) := by
    intro j o hj ho
    obtain ⟨E0, H0, v, H1, g1, g2, g3, g4⟩ := hget0 j o (toP j o hj ho)
    refine ⟨E0, H0, v, H1, by rw [lo j hj]; exact g1, g2, ?_, g4⟩
    by_cases hj1 : j + 1 < pre.length
    · rw [lo _ hj1]
      cases hx : l0[j + 1]? with
      | none => rw [List.getElem?_eq_none_iff] at hx; omega
      | some s => rw [hx] at g3; exact g3
    · have : j + 1 = pre.length := by omega
      rw [this, ll]
      rw [List.getElem?_eq_none (by omega)] at g3
      exact g3
  have hstep : ∀ j o, j < pre.length → ops[j]? = some o → StepOk P nt ops (drE l e') (heapAt l H') (drV l) j o := by
    intro j o hjl ho
    obtain ⟨E0, H0, v, H1, g1, g2, g3, _⟩ := hget j o hjl ho
    have e1 : drE l e' (j + 1) = putA E0 o.dst v := by
      unfold drE
      cases hj : l[j + 1]? with
      | none => rw [hj] at g3; exact g3.1
      | some s => rw [hj] at g3; exact g3.1
    have e2 : heapAt l H' (j + 1) = H1 := by
      unfold heapAt
      cases hj : l[j + 1]? with
      | none => rw [hj] at g3; exact g3.2
      | some s => rw [hj] at g3; exact g3.2
    have e3 : heapAt l H' j = H0 := by unfold heapAt; rw [g1]
    have e4 : drE l e' j = E0 := by unfold drE; rw [g1]
    have e5 : drV l j = v := by unfold drV; rw [g1]
    simp only [StepOk, e1, e2, e3, e4, e5]
    unfold drawOne at g2
    split at g2
    · rename_i hdst hg
      split at g2
      · rename_i hab
        simp only [Option.some.injEq, Prod.mk.injEq] at g2
        obtain ⟨rfl, rfl⟩ := g2
        exact ⟨hdst, .inl ⟨hg, hab, rfl, rfl⟩⟩
      · cases g2
    · rename_i hdst hg
      refine ⟨hdst, .inr ⟨hg, trivial, ?_⟩⟩
      split at g2
      · rename_i v' H2 hop
        simp only [Option.some.injEq, Prod.mk.injEq] at g2
        obtain ⟨rfl, rfl⟩ := g2
        exact .inl hop
      · rename_i f args H2 hop
        split at g2
        · rename_i v' H3 hcall
          simp only [Option.some.injEq, Prod.mk.injEq] at g2
          obtain ⟨rfl, rfl⟩ := g2
          exact .inr ⟨f, args, H2, hop, hc (.fn f args) H2 _ _ hcall⟩
        · cases g2
      · cases g2
    · cases g2
  refine ⟨hsz, ?_, ?_, hstep, ?_, by unfold drE; rw [ll], by unfold heapAt; rw [ll], by unfold drE; rw [List.getElem?_eq_none (by omega)]⟩
  · by_cases hz : 0 < pre.length
    · obtain ⟨E0, H0, v, H1, g1, _, _, g4⟩ := hget 0 _ hz (Array.getElem?_eq_getElem (by omega))
      unfold drE; simp only [g1]; exact (g4 rfl).1
    · have hn : pre = [] := List.eq_nil_of_length_eq_zero (by omega)
      subst hn
      simp only [drawOps, Option.some.injEq, Prod.mk.injEq] at hd
      obtain ⟨rfl, rfl, rfl⟩ := hd
      unfold drE; rw [show l[0]? = _ from ll]
  · by_cases hz : 0 < pre.length
    · obtain ⟨E0, H0, v, H1, g1, _, _, g4⟩ := hget 0 _ hz (Array.getElem?_eq_getElem (by omega))
      unfold heapAt; simp only [g1]; exact (g4 rfl).2
    · have hn : pre = [] := List.eq_nil_of_length_eq_zero (by omega)
      subst hn
      simp only [drawOps, Option.some.injEq, Prod.mk.injEq] at hd
      obtain ⟨rfl, rfl, rfl⟩ := hd
      unfold heapAt; rw [show l[0]? = _ from ll]
  · intro j o hjl ho h1 h2 h3 i hi hi2 hpre' hpost
    have hil : i ≤ pre.length := hpost pre.length o0 h0 hC0 (hanc j hjl)
    obtain ⟨E0, H0, v, H1, g1, g2, g3, _⟩ := hget j o hjl ho
    have hj : j < ops.size := (Array.getElem?_eq_some_iff.1 ho).1
    have hin : inWin (befs ops.toList) (cIdx ops.toList 0) (0 + j) i = true := by
      unfold inWin
      rw [List.all_eq_true]
      intro c hcm
      obtain ⟨p, hp, hpc, _⟩ := cIdx_mem _ _ _ hcm
      have hp' : ops[c]? = some p := by simpa using hp
      rw [Nat.zero_add, Bool.and_eq_true]
      constructor
      · cases hb : ((befs ops.toList).getD j 0).testBit c with
        | false => rfl
        | true => simp only [Bool.not_true, Bool.false_or, Nat.blt_eq]; exact hpre' c p hp' hpc hb
      · cases hb : ((befs ops.toList).getD c 0).testBit j with
        | false => rfl
        | true => simp only [Bool.not_true, Bool.false_or, Nat.ble_eq]; exact hpost c p hp' hpc hb
    have hmem : i ∈ cIdx ops.toList 0 ++ [ops.size] := by
      rcases hi2 with rfl | ⟨p, hp, hpc⟩
      · simp
      · have := cIdx_mem' ops.toList 0 i p (toL hp) hpc
        rw [Nat.zero_add] at this
        exact List.mem_append_left _ this
    -- at its own place
    have hown : opA P E0 o H0 = some (.val v, H0) := by
      obtain ⟨_, hh⟩ := hstep j o hjl ho
      have e3 : heapAt l H' j = H0 := by unfold heapAt; rw [g1]
      rcases hh with ⟨hg, _⟩ | ⟨hg, _, hh | ⟨f, args, H2, hh, _⟩⟩
      · rw [h3] at hg; cases hg
      · simp only [drE, drV, g1, e3] at hh
        rw [hh, (nonC_heap h1 hh).2]
      · obtain ⟨⟨v, hv⟩, _⟩ := nonC_heap h1 hh; cases hv
    simp only [drE, drV, g1] at h3 ⊢
    rcases winTabL_mem ops.toList 0 j i o (toL ho) h1 h2 hmem hin with hn | ⟨is, hm, his⟩
    · -- the heap is the same
      obtain ⟨n1, n2, n3⟩ := nextC_spec (ops.toList.drop j) (0 + j)
      have hsame : ∀ m, j + m ≤ i → heapAt l H' (j + m) = H0 := by
        intro m
        induction m with
        | zero => intro _; show heapAt l H' j = H0; unfold heapAt; rw [g1]
        | succ m ihm =>
          intro hm
          rw [← ihm (by omega)]
          have hk : j + m < ops.size := by omega
          have hok := Array.getElem?_eq_getElem hk
          have hcm : isC ops[j + m] = false := by
            refine n2 m _ (by rw [← hn]; omega) ?_
            rw [List.getElem?_drop]
            simp
          rcases (hstep (j + m) _ (by omega) hok).2 with ⟨_, _, _, e⟩ | ⟨_, _, e | ⟨f, args, H2, e, _⟩⟩
          · exact e
          · exact (nonC_heap hcm e).2
          · obtain ⟨⟨v, hv⟩, _⟩ := nonC_heap hcm e; cases hv
      have hji : j ≤ i := by omega
      have := hsame (i - j) (by omega)
      rw [show j + (i - j) = i by omega] at this
      rw [this]; exact hown
    · rw [← hl, List.all_eq_true] at hw
      rw [Nat.zero_add] at hm
      have := hw _ hm
      unfold winAt at this
      simp only [g1, h3, Bool.not_true, Bool.false_or] at this
      rw [List.all_eq_true] at this
      have := this i his
      unfold sameAt at this
      split at this
      · rename_i v' H4 hop
        rw [eqV_eq this] at hop
        rw [hop]
        rw [(nonC_heap h1 hop).2]
      · cases this

theorem drawPan_sound (hc : CallOk P call) {id : Nat} {ops : Array Oper} {out : Out} (h : drawPan P call nt ops env ds H = some out) : Tri P nt rd (.region id ops true) env ds H (isOut out) := by
  unfold drawPan at h
  cases h0 : (P.follows .mixedOrders && ordOk ops && lastAfter ops) with
  | false => rw [h0] at h; cases h
  | true =>
    rw [h0] at h
    rw [Bool.and_eq_true, Bool.and_eq_true] at h0
    simp only [cond_true] at h
    unfold drawPanT at h
    split at h
    · rename_i o l env' H' hlast hd
      split at h
      · rename_i hd0 hg0
        split at h
        · rename_i f args H1 hop
          split at h
          · rename_i v H2 hcall
            cases hw : (winTab ops).all (winAt P ops (l ++ [(o, env', H', undef)]) H') with
            | false => rw [hw] at h; cases h
            | true =>
              rw [hw] at h
              simp only [cond_true, Option.some.injEq] at h
              have hpre : ops.toList = ops.toList.dropLast ++ [o] := by
                obtain ⟨ys, hy⟩ := List.getLast?_eq_some_iff.1 hlast
                rw [hy]; simp
              have hsz0 : ops.toList.dropLast.length = ops.size - 1 := by simp
              have hC0 : isC o = true := by
                cases hcc : isC o with
                | true => rfl
                | false => obtain ⟨⟨v, hv⟩, _⟩ := nonC_heap hcc hop; cases hv
              have hanc : ∀ i, i < ops.toList.dropLast.length → ((befs ops.toList).getD ops.toList.dropLast.length 0).testBit i = true := by
                intro i hi
                have := h0.2
                unfold lastAfter at this
                rw [List.all_eq_true] at this
                have := this i (by rw [List.mem_range]; omega)
                rw [hsz0]; exact this
              obtain ⟨r0, r1, r2, r3, r4, r5, r6, r7⟩ := draw_runP hc hpre hC0 hanc hd hw rfl (e' := putA env' o.dst undef) rfl
              have hj0 : ops[ops.toList.dropLast.length]? = some o := by
                have : ops.toList[ops.toList.dropLast.length]? = some o := by
                  rw [List.getLast?_eq_getElem?] at hlast
                  rw [hsz0]; simpa using hlast
                simpa using this
              refine tri_drawP (j0 := ops.toList.dropLast.length) h0.1.1 (ordOk_ord h0.1.2) r1 r2 hj0 (by omega) hanc hd0 (by rw [r5]; exact hg0) (by rw [r5, r6]; exact hop) (hc (.fn f args) H1 _ _ hcall) (by rw [r7, r5]) hC0 r3 r4 ?_
              rw [r5]; exact h
          · cases h
        · cases h
      · cases h
    · cases h

theorem orDraw_sound (hc : CallOk P call) {id : Nat} {ops : Array Oper} {out : Out} (h : orDraw (evDraw P call nt ops env ds H) (drawPan P call nt ops env ds H) = some out) : Tri P nt rd (.region id ops true) env ds H (isOut out) := by
  cases hd : evDraw P call nt ops env ds H with
  | some x => rw [hd] at h; exact evDraw_sound hc (hd.trans h)
  | none => rw [hd] at h; exact drawPan_sound hc h

theorem evCode_sound (hc : CallOk P call) : ∀ (c : Code) (env : Env) (ds : List ADef) (H : Heap) (out : Out), evCode P call lf nt rd c env ds H = some out → Tri P nt rd c env ds H (isOut out) := by
  intro c
  induction c with
  | skip => intro env ds H out h; exact tri_skip (Option.some.inj h)
  | label l => intro env ds H out h; exact tri_label (Option.some.inj h)
  | exit id => intro env ds H out h; exact tri_exit (Option.some.inj h)
  | ret => intro env ds H out h; exact tri_ret (Option.some.inj h)
  | goto l => intro env ds H out h; cases h
  | refuse s => intro env ds H out h; cases h
  | scope c ih => intro env ds H out h; exact tri_scope (ih env ds H out h)
  | seq a b iha ihb =>
    intro env ds H out h
    simp only [evCode] at h
    cases ha : evCode P call lf nt rd a env ds H with
    | none => rw [ha] at h; cases h
    | some o1 =>
      rw [ha] at h
      obtain ⟨x, env', ds', H'⟩ := o1
      refine tri_seq ((iha env ds H _ ha).mono ?_)
      rintro y e d h' hh
      simp only [isOut, Prod.mk.injEq] at hh
      obtain ⟨rfl, rfl, rfl, rfl⟩ := hh
      cases y with
      | normal => exact ihb _ _ _ _ h
      | exit id => exact Option.some.inj h
      | ret => exact Option.some.inj h
      | panic v => exact Option.some.inj h
  | cond c a b iha ihb =>
    intro env ds H out h
    simp only [evCode] at h
    split at h
    · rename_i hv; exact tri_cond hv (iha env ds H out h)
    · rename_i hv; exact tri_cond hv (ihb env ds H out h)
    · cases h
  | block id c ih =>
    intro env ds H out h
    simp only [evCode] at h
    cases ha : evCode P call lf nt rd c env ds H with
    | none => rw [ha] at h; cases h
    | some o1 =>
      rw [ha] at h
      obtain ⟨x, env', ds', H'⟩ := o1
      refine tri_block ((ih env ds H _ ha).mono ?_)
      rintro y e d h' hh
      simp only [isOut, Prod.mk.injEq] at hh
      obtain ⟨rfl, rfl, rfl, rfl⟩ := hh
      cases y with
      | normal => exact Option.some.inj h
      | exit id' =>
        simp only at h
        simp only [blockQ]
        split at h
        · rename_i hid; rw [if_pos hid]; exact Option.some.inj h
        · rename_i hid; rw [if_neg hid]; exact Option.some.inj h
      | ret => exact Option.some.inj h
      | panic v => exact Option.some.inj h
  | loop c ih =>
    intro env ds H out h
    simp only [evCode] at h
    have key : ∀ m env ds H, loopN (evCode P call lf nt rd c) m env ds H = some out → roundsQ P nt rd c (isOut out) m env ds H := by
      intro m
      induction m with
      | zero => intro env ds H h; cases h
      | succ m ihm =>
        intro env ds H h
        simp only [loopN] at h
        cases ha : evCode P call lf nt rd c env ds H with
        | none => rw [ha] at h; cases h
        | some o1 =>
          rw [ha] at h
          obtain ⟨x, env', ds', H'⟩ := o1
          refine (ih env ds H _ ha).mono ?_
          rintro y e d h' hh
          simp only [isOut, Prod.mk.injEq] at hh
          obtain ⟨rfl, rfl, rfl, rfl⟩ := hh
          cases y with
          | normal => exact ihm _ _ _ h
          | exit id => exact Option.some.inj h
          | ret => exact Option.some.inj h
          | panic v => exact Option.some.inj h
    exact tri_loop lf (key lf env ds H h)
  | region id ops draw =>
    intro env ds H out h
    cases draw with
    | true => exact orDraw_sound hc h
    | false =>
      refine tri_region ?_
      rw [List.range_eq_range']
      have := evOps_sound (nt := nt) (rd := rd) hc ops out ops.toList 0 env ds H rfl h
      simpa using this
  | rangeFunc f ps assign body iha ihb =>
    intro env ds H out h
    simp only [evCode] at h
    split at h
    · rename_i g first captured hf
      split at h
      · rename_i hb
        split at h
        · obtain ⟨r, H', hr, hq⟩ := rangeEnd_sound h
          exact tri_rangeFunc rfl hf hb (TriCall.mono (hc (.fn g _) _ r H' hr) hq)
        · rename_i lo
          split at h
          · rename_i co hlo
            obtain ⟨r, H', hr, hq⟩ := rangeEnd_sound h
            exact tri_rangeFunc_in rfl hlo hf hb (TriCall.mono (hc (.fn g _) _ r H' hr) hq)
          · cases h
      · cases h
    · cases h

/-! ### Deferred functions -/
abbrev OutS := AExit × Env × PM × Heap

def evOpsS (P : Program) (nt : Nat) (ops : Array Oper) : List Oper → Env → PM → Heap → Option OutS
  | [], env, pm, H => some (.normal, env, pm, H)
  | o :: rest, env, pm, H =>
    match dstOk nt o.dst, guardA ops env o with
    | true, true => match opA P env o H with
      | some (.val v, H') => evOpsS P nt ops rest (putA env o.dst v) pm H'
      | some (.recover, H') => evOpsS P nt ops rest (putA env o.dst (match pm with | .pan v => v | _ => .nilIface)) (match pm with | .pan v => .recd v | p => p) H'
      | _ => none
    | _, _ => none

def isRecover (o : Oper) : Bool := match o.op with
  | .call { callee := .builtin .recover, .. } => true
  | _ => false

def plainS (pm : PM) : Option Out → Option OutS
  | some (x, env, [], H) => some (x, env, pm, H)
  | _ => none

def evS (P : Program) (call : CallF) (lf nt : Nat) : Code → Env → PM → Heap → Option OutS
  | .seq a b, env, pm, H => match evS P call lf nt a env pm H with
    | some (.normal, env', pm', H') => evS P call lf nt b env' pm' H'
    | r => r
  | .region id ops false, env, pm, H => match ops.toList.any isRecover with
    | true => evOpsS P nt ops ops.toList env pm H
    | false => plainS pm (evCode P call lf nt none (.region id ops false) env [] H)
  | c, env, pm, H => plainS pm (evCode P call lf nt none c env [] H)

def isOutS (out : OutS) : QCodeS := fun x e p h => (x, e, p, h) = out

theorem evOpsS_sound (ops : Array Oper) (out : OutS) : ∀ (rest : List Oper) (i : Nat) (env : Env) (pm : PM) (H : Heap), ops.toList.drop i = rest → evOpsS P nt ops rest env pm H = some out →
    TriOpsS P nt ops (List.range' i rest.length) env pm H (isOutS out)
  | [], i, env, pm, H, _, h => by
    simp only [evOpsS, Option.some.injEq] at h
    exact triOpsS_nil h
  | o :: rest, i, env, pm, H, hd, h => by
    have ho : ops[i]? = some o := by
      have : (ops.toList.drop i)[0]? = some o := by rw [hd]; rfl
      simpa using this
    have hd' : ops.toList.drop (i + 1) = rest := by
      have : (ops.toList.drop i).drop 1 = rest := by rw [hd]; rfl
      rwa [List.drop_drop] at this
    simp only [List.length_cons, List.range'_succ]
    unfold evOpsS at h
    split at h
    · rename_i hdst hg
      split at h
      · rename_i v H' hop
        exact triOpsS_val ho hg hdst hop (evOpsS_sound ops out rest (i + 1) _ _ _ hd' h)
      · rename_i H' hop
        exact triOpsS_recover ho hg hdst hop (evOpsS_sound ops out rest (i + 1) _ _ _ hd' h)
      · cases h
    · cases h

theorem plainS_sound (hc : CallOk P call) {c : Code} {pm : PM} {out : OutS} (h : plainS pm (evCode P call lf nt none c env [] H) = some out) : TriS P nt c env pm H (isOutS out) := by
  cases ha : evCode P call lf nt none c env [] H with
  | none => rw [ha] at h; cases h
  | some o1 =>
    rw [ha] at h
    obtain ⟨x, env', ds', H'⟩ := o1
    cases ds' with
    | cons d ds => cases h
    | nil =>
      refine triS_of_tri ((evCode_sound hc c env [] H _ ha).mono ?_)
      rintro y e d h' hh
      simp only [isOut, Prod.mk.injEq] at hh
      obtain ⟨rfl, rfl, rfl, rfl⟩ := hh
      exact ⟨rfl, Option.some.inj h⟩

theorem TriS.mono {c : Code} {pm : PM} {Q Q' : QCodeS} (h : TriS P nt c env pm H Q) (hQ : ∀ x e p h, Q x e p h → Q' x e p h) : TriS P nt c env pm H Q' := by
  intro base w0 r w a c₀ cs u h1 h2 h3 h4 h5
  refine wpSIn_mono (h base w0 r w a c₀ cs u h1 h2 h3 h4 h5) ?_
  rintro e a cs w ⟨r', x, env, pm, H, u, g1, g2, g3, g4, g5, g6, g7, g8, g9⟩
  exact ⟨r', x, env, pm, H, u, g1, g2, g3, g4, g5, g6, g7, g8, hQ _ _ _ _ g9⟩

theorem evS_sound (hc : CallOk P call) : ∀ (c : Code) (env : Env) (pm : PM) (H : Heap) (out : OutS), evS P call lf nt c env pm H = some out → TriS P nt c env pm H (isOutS out) := by
  intro c
  induction c with
  | seq a b iha ihb =>
    intro env pm H out h
    simp only [evS] at h
    cases ha : evS P call lf nt a env pm H with
    | none => rw [ha] at h; cases h
    | some o1 =>
      rw [ha] at h
      obtain ⟨x, env', pm', H'⟩ := o1
      refine triS_seq ((iha env pm H _ ha).mono ?_)
      rintro y e d h' hh
      simp only [isOutS, Prod.mk.injEq] at hh
      obtain ⟨rfl, rfl, rfl, rfl⟩ := hh
      cases y with
      | normal => exact ihb _ _ _ _ h
      | exit id => exact Option.some.inj h
      | ret => exact Option.some.inj h
      | panic v => exact Option.some.inj h
  | region id ops draw =>
    intro env pm H out h
    cases draw with
    | true => exact plainS_sound hc h
    | false =>
      simp only [evS] at h
      split at h
      · refine triS_region ?_
        rw [List.range_eq_range']
        have := evOpsS_sound (P := P) (nt := nt) ops out ops.toList 0 env pm H rfl h
        simpa using this
      · exact plainS_sound hc h
  | _ => intro env pm H out h; exact plainS_sound hc h

/-! ### A frame that is left; a job -/
def evDef (P : Program) (call : CallF) (lf : Nat) (f : FuncId) (args : List Value) (pm : PM) (H : Heap) : Option (PM × Heap) :=
  match P.funcs[f]? with
  | some fn => match fn.body with
    | some c => if args.length ≤ fn.ntmps then match evS P call lf fn.ntmps c (envOf 0 args .nil) pm H with
        | some (.normal, env', pm', H') => (resultsA P fn env' H').map fun _ => (pm', H')
        | some (.ret, env', pm', H') => (resultsA P fn env' H').map fun _ => (pm', H')
        | _ => none
      else none
    | none => none
  | none => none

theorem evDef_sound (hc : CallOk P call) {f : FuncId} {args : List Value} {pm pm' : PM} {H' : Heap} (h : evDef P call lf f args pm H = some (pm', H')) : TriDef P f args pm H (fun p h => p = pm' ∧ h = H') := by
  unfold evDef at h
  split at h
  · rename_i fn hf
    split at h
    · rename_i c hb
      split at h
      · rename_i hn
        split at h
        · rename_i env' pm2 H2 hs
          refine triDef_fn hf hb hn ((evS_sound hc c _ pm H _ hs).mono ?_)
          rintro x e p h' hh
          simp only [isOutS, Prod.mk.injEq] at hh
          obtain ⟨rfl, rfl, rfl, rfl⟩ := hh
          cases hr : resultsA P fn e h' with
          | none => rw [hr] at h; cases h
          | some v => rw [hr] at h; simp only [Option.map_some, Option.some.injEq, Prod.mk.injEq] at h; exact ⟨.inl rfl, ⟨v, rfl⟩, h⟩
        · rename_i env' pm2 H2 hs
          refine triDef_fn hf hb hn ((evS_sound hc c _ pm H _ hs).mono ?_)
          rintro x e p h' hh
          simp only [isOutS, Prod.mk.injEq] at hh
          obtain ⟨rfl, rfl, rfl, rfl⟩ := hh
          cases hr : resultsA P fn e h' with
          | none => rw [hr] at h; cases h
          | some v => rw [hr] at h; simp only [Option.map_some, Option.some.injEq, Prod.mk.injEq] at h; exact ⟨.inr rfl, ⟨v, rfl⟩, h⟩
        · cases h
      · cases h
    · cases h
  · cases h

def evLeave (P : Program) (call : CallF) (lf : Nat) (fn : Func) (env : Env) : List ADef → PM → Heap → Option (CRes × Heap)
  | [], .ret, H => (resultsA P fn env H).map fun v => (.ret v, H)
  | [], .pan v, H => some (.pan v, H)
  | [], .recd _, _ => none
  | .mark b :: ds, pm, H => match H.get b with
    | some .defs => evLeave P call lf fn env ds pm (H.set b .dead)
    | _ => none
  | .fn f args :: ds, pm, H => match evDef P call lf f args pm H with
    | some (pm', H') => evLeave P call lf fn env ds pm'.settle H'
    | none => none

theorem TriDef.mono {f : FuncId} {args : List Value} {pm : PM} {Q Q' : PM → Heap → Prop} (h : TriDef P f args pm H Q) (hQ : ∀ p h, Q p h → Q' p h) : TriDef P f args pm H Q' := by
  intro hb base w0 r w as u h1 h2 h3
  refine (h hb base w0 r w as u h1 h2 h3).mono ?_
  rintro e u' w' ⟨v', r', pm', H', g1, g2, g3, g4, g5⟩
  exact ⟨v', r', pm', H', g1, g2, g3, g4, hQ _ _ g5⟩

theorem evLeave_sound (hc : CallOk P call) {fn : Func} {env : Env} {res : CRes} {H' : Heap} : ∀ (ds : List ADef) (pm : PM) (H : Heap), evLeave P call lf fn env ds pm H = some (res, H') → TriLeave P fn nt env ds pm H (fun r h => r = res ∧ h = H')
  | [], .ret, H, h => by
    simp only [evLeave] at h
    cases hr : resultsA P fn env H with
    | none => rw [hr] at h; cases h
    | some v => rw [hr] at h; simp only [Option.map_some, Option.some.injEq, Prod.mk.injEq] at h; exact leave_ret hr h
  | [], .pan v, H, h => by
    simp only [evLeave, Option.some.injEq, Prod.mk.injEq] at h
    exact leave_pan h
  | [], .recd v, H, h => by cases h
  | .mark b :: ds, pm, H, h => by
    simp only [evLeave] at h
    split at h
    · rename_i hg; exact leave_mark hg (evLeave_sound hc ds pm _ h)
    · cases h
  | .fn f args :: ds, pm, H, h => by
    simp only [evLeave] at h
    split at h
    · rename_i pm' H2 hd
      refine leave_fn (TriDef.mono (evDef_sound hc hd) ?_)
      rintro p h2 ⟨rfl, rfl⟩
      exact evLeave_sound hc ds _ _ h
    · cases h

def roundEnd (l : Nat) : Option Out → Option (CRes × Heap)
  | some (.normal, _, _, H) => match H.get l with
    | some (.loop c) => some (.ret (.bool true), H.set l (.loop { c with state := .ready, pending := none }))
    | _ => none
  | some (.ret, _, _, H) => match H.get l with
    | some (.loop c) => some (.ret (.bool false), H.set l (.loop { c with state := .done, pending := some .ret }))
    | _ => none
  | some (.exit id, _, _, H) => match H.get l with
    | some (.loop c) => some (.ret (.bool false), H.set l (.loop { c with state := .done, pending := some (.exit id) }))
    | _ => none
  | some (.panic v, _, [], H) => some (.pan v, H)
  | _ => none

def isReady : LoopState → Bool | .ready => true | _ => false

def evFn (P : Program) (call : CallF) (lf : Nat) (f : FuncId) (args : List Value) (H : Heap) : Option (CRes × Heap) :=
  match P.funcs[f]? with
  | some fn => match fn.body with
    | some c => if args.length ≤ fn.ntmps then match evCode P call lf fn.ntmps none c (envOf 0 args .nil) [] H with
        | some (.normal, env', ds', H') => evLeave P call lf fn env' ds' .ret H'
        | some (.ret, env', ds', H') => evLeave P call lf fn env' ds' .ret H'
        | some (.panic v, env', ds', H') => evLeave P call lf fn env' ds' (.pan v) H'
        | _ => none
      else none
    | none => none
  | none => none

def evRound (P : Program) (call : CallF) (lf : Nat) (l : Nat) (args : List Value) (H : Heap) : Option (CRes × Heap) :=
  match H.get l with
  | some (.loop c) => if isReady c.state = true ∧ c.params.toList.all (· < c.nt) = true ∧ c.nf = P.funcs.size then
      match evCode P call lf c.nt (some l) c.assign (bindA c.params.toList args c.env) [] H with
      | some (.normal, env1, ds1, H1) => match H1.get l with
        | some (.loop c1) => if isReady c1.state = true then roundEnd l (evCode P call lf c.nt (some l) c.body env1 ds1 (H1.set l (.loop { c1 with state := .busy }))) else none
        | _ => none
      | _ => none
    else none
  | _ => none

/-- One job; the jobs in it are done by 'call'. -/
def ev1 (P : Program) (call : CallF) (lf : Nat) : Job → Heap → Option (CRes × Heap)
  | .fn f args, H => evFn P call lf f args H
  | .round l args, H => evRound P call lf l args H

def evJob (P : Program) (lf : Nat) : Nat → Job → Heap → Option (CRes × Heap)
  | 0 => fun _ _ => none
  | k + 1 => ev1 P (evJob P lf k) lf

theorem roundEnd_sound {l : Nat} {out : Option Out} {res : CRes} {H' : Heap} (h : roundEnd l out = some (res, H')) : ∃ o, out = some o ∧ ∀ x e d hh, isOut o x e d hh → roundQ l (fun r h => r = res ∧ h = H') x e d hh := by
  unfold roundEnd at h
  split at h
  · rename_i e d H
    refine ⟨_, rfl, ?_⟩
    rintro x e d hh heq
    simp only [isOut, Prod.mk.injEq] at heq
    obtain ⟨rfl, rfl, rfl, rfl⟩ := heq
    split at h
    · rename_i c hg; simp only [Option.some.injEq, Prod.mk.injEq] at h; exact ⟨c, hg, h⟩
    · cases h
  · rename_i e d H
    refine ⟨_, rfl, ?_⟩
    rintro x e d hh heq
    simp only [isOut, Prod.mk.injEq] at heq
    obtain ⟨rfl, rfl, rfl, rfl⟩ := heq
    split at h
    · rename_i c hg; simp only [Option.some.injEq, Prod.mk.injEq] at h; exact ⟨c, hg, h⟩
    · cases h
  · rename_i id e d H
    refine ⟨_, rfl, ?_⟩
    rintro x e d hh heq
    simp only [isOut, Prod.mk.injEq] at heq
    obtain ⟨rfl, rfl, rfl, rfl⟩ := heq
    split at h
    · rename_i c hg; simp only [Option.some.injEq, Prod.mk.injEq] at h; exact ⟨c, hg, h⟩
    · cases h
  · rename_i v e H
    refine ⟨_, rfl, ?_⟩
    rintro x e d hh heq
    simp only [isOut, Prod.mk.injEq] at heq
    obtain ⟨rfl, rfl, rfl, rfl⟩ := heq
    simp only [Option.some.injEq, Prod.mk.injEq] at h
    exact ⟨rfl, h⟩
  · cases h

theorem ev1_sound {P : Program} {call : CallF} {lf : Nat} (ih : CallOk P call) : CallOk P (ev1 P call lf) := by
  intro job H res H' h
  cases job with
  | fn f args =>
    simp only [ev1, evFn, evRound] at h
    split at h
    · rename_i fn hf
      split at h
      · rename_i c hb
        split at h
        · rename_i hn
          split at h
          · rename_i env' ds' H2 hcode
            refine triCall_fn hf hb hn ((evCode_sound ih c _ _ _ _ hcode).mono ?_)
            rintro x e d hh heq
            simp only [isOut, Prod.mk.injEq] at heq
            obtain ⟨rfl, rfl, rfl, rfl⟩ := heq
            exact evLeave_sound ih _ _ _ h
          · rename_i env' ds' H2 hcode
            refine triCall_fn hf hb hn ((evCode_sound ih c _ _ _ _ hcode).mono ?_)
            rintro x e d hh heq
            simp only [isOut, Prod.mk.injEq] at heq
            obtain ⟨rfl, rfl, rfl, rfl⟩ := heq
            exact evLeave_sound ih _ _ _ h
          · rename_i v env' ds' H2 hcode
            refine triCall_fn hf hb hn ((evCode_sound ih c _ _ _ _ hcode).mono ?_)
            rintro x e d hh heq
            simp only [isOut, Prod.mk.injEq] at heq
            obtain ⟨rfl, rfl, rfl, rfl⟩ := heq
            exact evLeave_sound ih _ _ _ h
          · cases h
        · cases h
      · cases h
    · cases h
  | round l args =>
    simp only [ev1, evFn, evRound] at h
    split at h
    · rename_i c hg
      split at h
      · rename_i hcnd
        obtain ⟨h1, h2, h3⟩ := hcnd
        split at h
        · rename_i env1 ds1 H1 hassign
          split at h
          · rename_i c1 hg1
            split at h
            · rename_i hr1
              obtain ⟨o, ho, hq⟩ := roundEnd_sound h
              refine triRound hg (by cases hs : c.state <;> rw [hs] at h1 <;> first | rfl | cases h1) (by intro t ht; rw [List.all_eq_true] at h2; simpa using h2 t ht) h3 ((evCode_sound ih c.assign _ _ _ _ hassign).mono ?_)
              rintro x e d hh heq
              simp only [isOut, Prod.mk.injEq] at heq
              obtain ⟨rfl, rfl, rfl, rfl⟩ := heq
              exact ⟨rfl, c1, hg1, (by cases hs : c1.state <;> rw [hs] at hr1 <;> first | rfl | cases hr1), (evCode_sound ih c.body _ _ _ _ ho).mono hq⟩
            · cases h
          · cases h
        · cases h
      · cases h
    · cases h

/-- **The abstract run says the truth.** -/
theorem evJob_sound (P : Program) (lf : Nat) : ∀ k, CallOk P (evJob P lf k)
  | 0 => fun job H res H' h => by cases h
  | k + 1 => ev1_sound (evJob_sound P lf k)
end
end Go.Abs
