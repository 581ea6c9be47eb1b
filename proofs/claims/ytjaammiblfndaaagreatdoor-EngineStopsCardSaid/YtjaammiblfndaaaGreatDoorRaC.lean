/- the abstract machine: regions that draw their order; control; functions. -/
import Derived.Test.YtjaammiblfndaaaGreatDoorRaB
import Derived.Orders
import Derived.OrdersIn
import Derived.Scope
import Derived.RangeFuncRecord
set_option linter.unusedVariables false
set_option linter.unusedSimpArgs false
set_option linter.all false
/- A region that draws its order: what is to be shown of it. -/
namespace Ram
open Go
open Go.RowKit (Below Hid)

/-- The operations that an operation waits for. -/
def preds (ops : Array Oper) (i : Nat) : List Nat :=
  match ops[i]? with
  | some o => (o.after.toList.filter (Region.binds .any)).map (·.on)
  | none => []

inductive Pre (ops : Array Oper) : Nat → Nat → Prop
  | edge {i j : Nat} : j ∈ preds ops i → Pre ops j i
  | more {i j l : Nat} : j ∈ preds ops i → Pre ops l j → Pre ops l i

def maskOf (t : List Nat) : List Nat → Nat
  | [] => 0
  | p :: r => 2 ^ p ||| t.getD p 0 ||| maskOf t r
/-- Whatever an operation waits for, through others too, as bits. -/
def tbl (ops : Array Oper) : Nat → List Nat
  | 0 => []
  | n + 1 => tbl ops n ++ [maskOf (tbl ops n) (preds ops n)]

theorem tbl_length (ops : Array Oper) : ∀ n, (tbl ops n).length = n
  | 0 => rfl
  | n + 1 => by simp [tbl, tbl_length ops n]

theorem mask_bit {t : List Nat} {j : Nat} : ∀ {l : List Nat}, (maskOf t l).testBit j = true → ∃ p ∈ l, j = p ∨ (t.getD p 0).testBit j = true
  | [], h => by simp [maskOf] at h
  | p :: r, h => by
    simp only [maskOf, Nat.testBit_or, Bool.or_eq_true] at h
    rcases h with (h | h) | h
    · rw [Nat.testBit_two_pow] at h
      simp at h
      exact ⟨p, by simp, .inl h.symm⟩
    · exact ⟨p, by simp, .inr h⟩
    · obtain ⟨q, hq, h⟩ := mask_bit h
      exact ⟨q, by simp [hq], h⟩

theorem tbl_pre (ops : Array Oper) : ∀ (n i j : Nat), ((tbl ops n).getD i 0).testBit j = true → Pre ops j i
  | 0, i, j, h => by simp [tbl] at h
  | n + 1, i, j, h => by
    have hl := tbl_length ops n
    simp only [tbl] at h
    rw [List.getD_eq_getElem?_getD] at h
    by_cases hi : i < n
    · rw [List.getElem?_append_left (by omega), ← List.getD_eq_getElem?_getD] at h
      exact tbl_pre ops n i j h
    · by_cases hn : i = n
      · subst hn
        rw [List.getElem?_append_right (by omega), hl, Nat.sub_self] at h
        simp only [List.getElem?_cons_zero, Option.getD_some] at h
        obtain ⟨p, hp, rfl | h⟩ := mask_bit h
        · exact .edge hp
        · exact .more hp (tbl_pre ops i p j h)
      · rw [List.getElem?_eq_none (by simp; omega)] at h
        simp at h

/-- The registers that an operand, an operation looks at. -/
def X.regs : X → List Nat
  | .t n => [n]
  | _ => []
def optRegs : Option X → List Nat
  | some x => x.regs
  | none => []
def regsL (l : List X) : List Nat := l.flatMap X.regs
def regsP (l : List (Nat × Nat × X)) : List Nat := l.flatMap fun p => p.2.2.regs
def PureOp.regs : PureOp → List Nat
  | .mv x | .mvS x | .nilCheck x | .fieldAddr _ x | .field _ _ _ x | .un _ x | .conv _ x | .lenS x | .lenSl x | .mkIface _ x | .extract _ x | .tassert _ _ x => x.regs
  | .pick c a b => c.regs ++ a.regs ++ b.regs
  | .build _ ps => regsP ps
  | .idxAddrSl _ x y | .idxAddrArr _ _ x y | .idxArr _ _ _ x y | .idxStr x y | .bin _ x y | .eqB _ x y | .eqAgg _ _ x y | .isNil _ _ x y => x.regs ++ y.regs
  | .mkFunc _ a b => regsL a ++ regsL b
  | .slStr x lo hi => x.regs ++ optRegs lo ++ optRegs hi
  | .slSl _ x lo hi mx => x.regs ++ optRegs lo ++ optRegs hi ++ optRegs mx
  | .lenC _ => []
  | .mxmn _ xs => regsL xs
def ReadOp.regs : ReadOp → List Nat
  | .slArr _ _ x lo hi => x.regs ++ optRegs lo ++ optRegs hi
  | .ld1 x | .ldN _ x | .lenM x | .b2s x => x.regs
  | .lookup _ _ _ x y | .peq _ x y => x.regs ++ y.regs
def AllocOp.regs : AllocOp → List Nat
  | .newz _ | .newb _ | .mkmap => []
  | .box x | .s2b x | .rangeS x => x.regs
  | .bslice _ _ _ ps => regsP ps
  | .mkslice _ _ _ x y => x.regs ++ y.regs
def ActOp.regs : ActOp → List Nat
  | .st _ x y | .append _ _ x y | .del _ x y | .copy _ x y => x.regs ++ y.regs
  | .mapUpd _ x y z => x.regs ++ y.regs ++ z.regs
  | .clearM x | .clearSl _ _ x | .nextS x | .rangeM x | .nextM x | .entryM x => x.regs
def AOp.regs : AOp → List Nat
  | .pure o => o.regs
  | .read o => o.regs
  | .alloc o => o.regs
  | .act o => o.regs
  | .call _ xs => regsL xs
  | .callV g xs => g.regs ++ regsL xs
  | .pan x => x.regs
def AOper.regs (o : AOper) : List Nat := o.op.regs ++ (match o.guard with | some (d, _) => [d] | none => [])

/-- Two stores of registers that are alike at some. -/
def SameOn (l : List Nat) (e e' : Env) : Prop := ∀ t ∈ l, e.get t = e'.get t

variable {e e' : Env} {H : AH}

theorem SameOn.left {l m : List Nat} (h : SameOn (l ++ m) e e') : SameOn l e e' := fun t ht => h t (List.mem_append_left _ ht)
theorem SameOn.right {l m : List Nat} (h : SameOn (l ++ m) e e') : SameOn m e e' := fun t ht => h t (List.mem_append_right _ ht)
theorem SameOn.symm {l : List Nat} (h : SameOn l e e') : SameOn l e' e := fun t ht => (h t ht).symm

theorem ev_same {x : X} (h : SameOn x.regs e e') : x.ev e = x.ev e' := by
  cases x with
  | t n => exact h n (by simp [X.regs])
  | c v => rfl
  | fn f => rfl
theorem evs_same : ∀ {l : List X}, SameOn (regsL l) e e' → evs e l = evs e' l
  | [], _ => rfl
  | x :: l, h => by
    have h1 : SameOn (x.regs ++ regsL l) e e' := by simpa [regsL] using h
    simp only [evs, ev_same h1.left, evs_same h1.right]
theorem fillV_same : ∀ {l : List (Nat × Nat × X)} {cs : List V}, SameOn (regsP l) e e' → fillV e cs l = fillV e' cs l
  | [], _, _ => rfl
  | (o, s, x) :: l, cs, h => by
    have h1 : SameOn (x.regs ++ regsP l) e e' := by simpa [regsP] using h
    simp only [fillV, ev_same h1.left]
    split
    · split
      · exact fillV_same h1.right
      · rfl
    · rfl
theorem bnd_same {x : X} {y : Nat} (h : SameOn x.regs e e') : bnd e y x = bnd e' y x := by simp only [bnd, ev_same h]
theorem cut2_same {lo hi : Option X} {n m : Nat} (h1 : SameOn (optRegs lo) e e') (h2 : SameOn (optRegs hi) e e') : cut2 e n m lo hi = cut2 e' n m lo hi := by
  unfold cut2
  cases hi with
  | none =>
    cases lo with
    | none => rfl
    | some x => simp only [bnd_same (x := x) h1]
  | some y =>
    simp only [bnd_same (x := y) h2]
    split
    · cases lo with
      | none => rfl
      | some x => simp only [bnd_same (x := x) h1]
    · rfl

theorem apure_same {o : PureOp} (h : SameOn o.regs e e') : apure o e = apure o e' := by
  cases o <;> simp only [PureOp.regs] at h <;> simp only [apure] <;>
    first
      | rfl
      | (simp only [ev_same h]; done)
      | (simp only [evs_same h]; done)
      | (simp only [fillV_same h]; done)
      | (simp only [ev_same h.left, ev_same h.right]; done)
      | (simp only [evs_same h.left, evs_same h.right]; done)
      | (simp only [ev_same h.left.left, ev_same h.left.right, ev_same h.right]; done)
      | (simp only [ev_same h.left.left, cut2_same h.left.right h.right]; done)
      | skip
  case slSl es x lo hi mx =>
    have hx := h.left.left.left
    have hl := h.left.left.right
    have hh := h.left.right
    cases mx with
    | none => simp only [ev_same hx, cut2_same hl hh]
    | some m => simp only [ev_same hx, bnd_same (x := m) h.right, cut2_same hl hh]
theorem aread_same {o : ReadOp} (h : SameOn o.regs e e') : aread o e H = aread o e' H := by
  cases o <;> simp only [ReadOp.regs] at h <;> simp only [aread] <;>
    first
      | (simp only [ev_same h]; done)
      | (simp only [ev_same h.left, ev_same h.right]; done)
      | (simp only [ev_same h.left.left, cut2_same h.left.right h.right]; done)
theorem aalloc_same {o : AllocOp} (h : SameOn o.regs e e') : aalloc o e = aalloc o e' := by
  cases o <;> simp only [AllocOp.regs] at h <;> simp only [aalloc] <;>
    first
      | rfl
      | (simp only [ev_same h]; done)
      | (simp only [fillV_same h]; done)
      | (simp only [ev_same h.left, ev_same h.right]; done)
theorem aact_same {o : ActOp} (h : SameOn o.regs e e') : aact o e H = aact o e' H := by
  cases o <;> simp only [ActOp.regs] at h <;> simp only [aact] <;>
    first
      | (simp only [ev_same h]; done)
      | (simp only [ev_same h.left, ev_same h.right]; done)
      | (simp only [ev_same h.left.left, ev_same h.left.right, ev_same h.right]; done)
theorem guard_same {o : AOper} (h : SameOn o.regs e e') : guardOk e o.guard = guardOk e' o.guard := by
  unfold AOper.regs at h
  cases hg : o.guard with
  | none => rfl
  | some g =>
    obtain ⟨d, want⟩ := g
    rw [hg] at h
    have := h.right d (by simp)
    simp only [guardOk, this]
theorem aop1_same {P : Program} {W0 : World} {o : AOp} {Q : AExit → Env → AH → Prop} {K : V → AH → Prop} (h : SameOn o.regs e e') (ha : aop1 P W0 Q o e H K) : aop1 P W0 Q o e' H K := by
  cases o <;> simp only [AOp.regs] at h <;> simp only [aop1] at ha ⊢ <;>
    first
      | (rw [apure_same h] at ha; exact ha)
      | (rw [aread_same h] at ha; exact ha)
      | (rw [aalloc_same h] at ha; exact ha)
      | (rw [aact_same h] at ha; exact ha)
      | (rw [evs_same h] at ha; exact ha)
      | (rw [ev_same h.left, evs_same h.right] at ha; exact ha)
      | (rw [ev_same h] at ha; exact ha)

end Ram

/- A region that draws its order: the rules. -/
namespace Ram
open Go
open Go.RowKit (Below Hid)

def AH.bump (H : AH) : Nat → AH
  | 0 => H
  | m + 1 => { H with next := H.next + (m + 1) }

/-- An operation that does nothing to the heap but make an object: its number, itself, the stage at whose end that object is laid into the heap. -/
structure DItem where
  i : Nat
  o : AOper
  hi : Nat
structure DStage where
  chk : List AOper
  items : List DItem
  act : Option AOper

/-- Objects made, not yet in the heap. -/
abbrev Pend := List (Nat × Nat × AO)

def flushAt (base k : Nat) : Pend → AH → AH
  | [], H => H
  | (i, h, o) :: r, H => if h = k then (flushAt base k r H).set (base + i) o else flushAt base k r H
def restAt (k : Nat) : Pend → Pend
  | [] => []
  | (i, h, o) :: r => if h = k then restAt k r else (i, h, o) :: restAt k r

def hasE (env : Env) : Option Nat → V → Prop
  | some d, v => env.get d = some v
  | none, _ => True

/-- What was read is still so. -/
def dchk (env : Env) (H : AH) : List AOper → Prop
  | [] => True
  | o :: r => (match guardOk env o.guard with
    | some true => match o.op with
      | .read p => ∃ v, aread p env H = some v ∧ hasE env o.dst v
      | _ => True
    | _ => True) ∧ dchk env H r

def ditems (base : Nat) (H : AH) : List DItem → Env → Pend → (Env → Pend → Prop) → Prop
  | [], env, pend, K => K env pend
  | ⟨i, o, h⟩ :: r, env, pend, K => match guardOk env o.guard with
    | some true => match o.op with
      | .pure p => match apure p env with
        | some v => ditems base H r (putE env o.dst v) pend K
        | none => False
      | .read p => match aread p env H with
        | some v => ditems base H r (putE env o.dst v) pend K
        | none => False
      | .alloc p => match aalloc p env with
        | some (obj, mk) => ditems base H r (putE env o.dst (mk (base + i))) ((i, h, obj) :: pend) K
        | none => False
      | _ => False
    | some false => ditems base H r (putE env o.dst (.tup [])) pend K
    | none => False

def dstages (P : Program) (W0 : World) (Q : AExit → Env → AH → Prop) (base : Nat) : List DStage → Nat → Env → AH → Pend → Prop
  | [], _, _, _, _ => False
  | s :: r, k, env, H, pend => dchk env H s.chk ∧ ditems base H s.items env pend fun env pend =>
    match s.act with
    | none => Q .normal env (flushAt base k pend H)
    | some o => match guardOk env o.guard with
      | some true => aop1 P W0 Q o.op env (flushAt base k pend H) fun v H' => dstages P W0 Q base r (k + 1) (putE env o.dst v) H' (restAt k pend)
      | some false => dstages P W0 Q base r (k + 1) (putE env o.dst (.tup [])) (flushAt base k pend H) (restAt k pend)
      | none => False

/-- The whole region. -/
def adraw (P : Program) (W0 : World) (Q : AExit → Env → AH → Prop) (m : Nat) (l : List DStage) (env : Env) (H : AH) : Prop :=
  dstages P W0 Q H.next l 0 env (H.bump m) []

def isAct : AOp → Bool
  | .act _ | .call _ _ | .callV _ _ | .pan _ => true
  | _ => false
def isAl : AOp → Bool
  | .alloc _ => true
  | _ => false

def pfx (p : Nat → Bool) : List Nat → Nat
  | [] => 0
  | x :: r => if p x then pfx p r + 1 else 0

/-- A region, taken apart: its operations, whatever each one waits for, the ones that act. -/
structure DLay where
  n : Nat
  xs : List AOper
  T : List Nat
  ch : List Nat

def DLay.lo (L : DLay) (i : Nat) : Nat := pfx (fun c => (L.T.getD i 0).testBit c) L.ch
def DLay.hi (L : DLay) (i : Nat) : Nat := pfx (fun c => !(L.T.getD c 0).testBit i) L.ch

def DLay.item (L : DLay) (k i : Nat) : Option DItem :=
  match L.xs[i]? with
  | some o => if isAct o.op then none else if L.lo i = k then some ⟨i, o, L.hi i⟩ else none
  | none => none
def DLay.again (L : DLay) (k i : Nat) : Option AOper :=
  match L.xs[i]? with
  | some o => match o.op with
    | .read _ => if L.lo i < k ∧ k ≤ L.hi i then some o else none
    | _ => none
  | none => none
def DLay.stage (L : DLay) (k : Nat) : DStage :=
  ⟨(List.range L.n).filterMap (L.again k), (List.range L.n).filterMap (L.item k), (L.ch[k]?).bind fun c => L.xs[c]?⟩

def DLay.stages (L : DLay) : Nat → Nat → List DStage
  | _, 0 => []
  | k, m + 1 => L.stage k :: L.stages (k + 1) m

def chainOk (T : List Nat) : List Nat → Bool
  | a :: b :: r => (T.getD b 0).testBit a && chainOk T (b :: r)
  | _ => true

def DLay.dst (L : DLay) (j : Nat) : Option Nat := (L.xs[j]?).bind (·.dst)
def DLay.acts (L : DLay) (j : Nat) : Bool := match L.xs[j]? with | some o => isAct o.op | none => false

/-- Is the first one reckoned ahead of the second one? -/
def DLay.bef (L : DLay) (x y : Nat) : Bool :=
  match L.acts x, L.acts y with
  | false, false => decide (L.lo x ≤ L.lo y) && decide (x < y)
  | true, false => (L.ch.take (L.lo y)).contains x
  | false, true => !(L.ch.take (L.lo x)).contains y
  | true, true => decide (x < y)
def DLay.bit (L : DLay) (i j : Nat) : Bool := (L.T.getD i 0).testBit j
/-- May an operation look at a register that another one writes? Behind it, or ahead of it. -/
def DLay.sees (L : DLay) (i j : Nat) : Bool := (L.bit i j && L.bef j i) || (L.bit j i && L.bef i j)

def DLay.ok (L : DLay) (ops : Array Oper) : Bool :=
  (List.range L.n).all (fun i => (preds ops i).all fun p => decide (p < i)) &&
  (List.range L.n).all (fun i => (List.range i).all fun j => match L.dst i, L.dst j with | some d, some d' => d != d' | _, _ => true) &&
  (List.range L.n).all (fun i => match L.xs[i]? with
    | some o => o.regs.all fun r => (List.range L.n).all fun j => match L.dst j with | some d => d != r || L.sees i j | none => true
    | none => true) &&
  chainOk L.T L.ch &&
  (List.range L.n).all (fun i => decide (L.lo i ≤ L.hi i)) &&
  (List.range L.n).all (fun i => match L.xs[i]? with
    | some o => match o.op with
      | .read _ => decide (L.hi i ≤ L.lo i) || o.regs.all fun r => (List.range L.n).all fun j => match L.dst j with | some d => d != r || L.bit i j | none => true
      | _ => true
    | none => true)

def layOf (ops : Array Oper) (xs : List AOper) : DLay :=
  ⟨ops.size, xs, tbl ops ops.size, (List.range ops.size).filter fun i => match xs[i]? with | some o => isAct o.op | none => false⟩

def compDraw (P : Program) (N : Nat) (ops : Array Oper) : Option (Nat × List DStage) :=
  match compOpers P N ops ops.toList with
  | some xs =>
    if (layOf ops xs).ok ops then some (if xs.any fun o => isAl o.op then ops.size else 0, (layOf ops xs).stages 0 ((layOf ops xs).ch.length + 1)) else none
  | none => none

end Ram

/- A region that draws its order: what the checks say. -/
namespace Ram
open Go
open Go.RowKit (Below Hid)

theorem pfx_lt {p : Nat → Bool} : ∀ {l : List Nat} {k : Nat}, k < pfx p l → ∃ c, l[k]? = some c ∧ p c = true
  | [], k, h => by simp [pfx] at h
  | x :: r, k, h => by
    simp only [pfx] at h
    split at h
    · next hp =>
      cases k with
      | zero => exact ⟨x, by simp, hp⟩
      | succ k => obtain ⟨c, h1, h2⟩ := pfx_lt (p := p) (l := r) (k := k) (by omega); exact ⟨c, by simpa using h1, h2⟩
    · omega
theorem pfx_at {p : Nat → Bool} : ∀ {l : List Nat} {c : Nat}, l[pfx p l]? = some c → p c = false
  | [], c, h => by simp at h
  | x :: r, c, h => by
    simp only [pfx] at h
    split at h
    · next hp => exact pfx_at (l := r) (by simpa using h)
    · next hp => simp at h; subst h; simpa using hp
theorem pfx_le {p : Nat → Bool} : ∀ {l : List Nat}, pfx p l ≤ l.length
  | [] => by simp [pfx]
  | x :: r => by simp only [pfx]; have := pfx_le (p := p) (l := r); split <;> simp <;> omega

theorem compOpers_length {P : Program} {N : Nat} {ops : Array Oper} : ∀ {l : List Oper} {xs : List AOper}, compOpers P N ops l = some xs → xs.length = l.length
  | [], xs, h => by simp only [compOpers, Option.some.injEq] at h; subst h; rfl
  | o :: l, xs, h => by
    unfold compOpers at h
    split at h
    · next x m hx hm => simp only [Option.some.injEq] at h; subst h; simp [compOpers_length hm]
    · cases h
theorem compOpers_get {P : Program} {N : Nat} {ops : Array Oper} : ∀ {l : List Oper} {xs : List AOper} {i : Nat} {x : AOper}, compOpers P N ops l = some xs → xs[i]? = some x → ∃ o, l[i]? = some o ∧ compOper P N ops o = some x
  | [], xs, i, x, h, hx => by simp only [compOpers, Option.some.injEq] at h; subst h; simp at hx
  | o :: l, xs, i, x, h, hi => by
    unfold compOpers at h
    split at h
    · next y m hy hm =>
      simp only [Option.some.injEq] at h; subst h
      cases i with
      | zero => simp at hi; subst hi; exact ⟨o, by simp, hy⟩
      | succ i => obtain ⟨o', h1, h2⟩ := compOpers_get (i := i) hm (by simpa using hi); exact ⟨o', by simpa using h1, h2⟩
    · cases h

theorem chain_at {T : List Nat} : ∀ {l : List Nat} {t a b : Nat}, chainOk T l = true → l[t]? = some a → l[t + 1]? = some b → (T.getD b 0).testBit a = true
  | [], t, a, b, _, h, _ => by simp at h
  | [x], t, a, b, _, _, h => by simp at h
  | x :: y :: r, t, a, b, hc, h1, h2 => by
    simp only [chainOk, Bool.and_eq_true] at hc
    cases t with
    | zero => simp at h1 h2; subst h1; subst h2; exact hc.1
    | succ t => exact chain_at (l := y :: r) (t := t) hc.2 (by simpa using h1) (by simpa using h2)

/-- What the checks say. -/
structure DOk (L : DLay) (ops : Array Oper) : Prop where
  n : L.n = ops.size
  len : L.xs.length = L.n
  pre_lt : ∀ i, i < L.n → ∀ p ∈ preds ops i, p < i
  uniq : ∀ i j d : Nat, L.dst i = some d → L.dst j = some d → i = j
  sees : ∀ (i : Nat) (o : AOper), L.xs[i]? = some o → ∀ r ∈ o.regs, ∀ j, L.dst j = some r → (L.bit i j = true ∧ L.bef j i = true) ∨ (L.bit j i = true ∧ L.bef i j = true)
  chain : ∀ t a b : Nat, L.ch[t]? = some a → L.ch[t + 1]? = some b → Pre ops a b
  lohi : ∀ i, i < L.n → L.lo i ≤ L.hi i
  reads : ∀ (i : Nat) (o : AOper) (p : ReadOp), L.xs[i]? = some o → o.op = .read p → L.lo i < L.hi i → ∀ r ∈ o.regs, ∀ j, L.dst j = some r → L.bit i j = true
  bits : ∀ i j, L.bit i j = true → Pre ops j i
  acts : ∀ c, c ∈ L.ch ↔ c < L.n ∧ L.acts c = true
  nodup : ∀ t t' c : Nat, L.ch[t]? = some c → L.ch[t']? = some c → t = t'

theorem DLay.dst_lt {L : DLay} {i d : Nat} (h : L.dst i = some d) : i < L.xs.length := by
  unfold DLay.dst at h
  cases hx : L.xs[i]? with
  | none => rw [hx] at h; cases h
  | some o => exact (List.getElem?_eq_some_iff.1 hx).1
theorem DLay.dst_of {L : DLay} {i : Nat} {o : AOper} (h : L.xs[i]? = some o) : L.dst i = o.dst := by simp [DLay.dst, h]
theorem DLay.acts_of {L : DLay} {i : Nat} {o : AOper} (h : L.xs[i]? = some o) : L.acts i = isAct o.op := by simp [DLay.acts, h]

theorem DOk.of {ops : Array Oper} {xs : List AOper} (hl : xs.length = ops.size) (h : (layOf ops xs).ok ops = true) : DOk (layOf ops xs) ops := by
  have hlen : (layOf ops xs).xs.length = (layOf ops xs).n := hl
  unfold DLay.ok at h
  simp only [Bool.and_eq_true, List.all_eq_true, List.mem_range, decide_eq_true_eq] at h
  obtain ⟨⟨⟨⟨⟨h1, h2⟩, h3⟩, h4⟩, h5⟩, h6⟩ := h
  have bits : ∀ i j, (layOf ops xs).bit i j = true → Pre ops j i := fun i j h => tbl_pre ops ops.size i j h
  have un : ∀ i j d, j < i → (layOf ops xs).dst i = some d → (layOf ops xs).dst j = some d → False := by
    intro i j d hji hi hj
    have := h2 i (by rw [← hlen]; exact DLay.dst_lt hi) j hji
    rw [hi, hj] at this
    simp at this
  refine ⟨rfl, hlen, h1, fun i j d hi hj => ?_, fun i o ho r hr j hj => ?_, fun t a b ha hb => ?_, h5, fun i o p ho hp hlt r hr j hj => ?_, bits, fun c => ?_, fun t t' c h h' => ?_⟩
  · rcases Nat.lt_trichotomy i j with hij | hij | hij
    · exact (un j i d hij hj hi).elim
    · exact hij
    · exact (un i j d hij hi hj).elim
  · have hi := (List.getElem?_eq_some_iff.1 ho).1
    have := h3 i (by rw [← hlen]; exact hi)
    rw [ho] at this
    simp only [List.all_eq_true, List.mem_range] at this
    have := this r hr j (by rw [← hlen]; exact DLay.dst_lt hj)
    rw [hj] at this
    simp only [Bool.or_eq_true, bne_iff_ne, ne_eq, not_true_eq_false, false_or, DLay.sees, Bool.and_eq_true] at this
    exact this
  · exact bits _ _ (chain_at h4 ha hb)
  · have hi := (List.getElem?_eq_some_iff.1 ho).1
    have := h6 i (by rw [← hlen]; exact hi)
    rw [ho] at this
    simp only [hp, Bool.or_eq_true, decide_eq_true_eq] at this
    rcases this with this | this
    · omega
    · simp only [List.all_eq_true, List.mem_range] at this
      have := this r hr j (by rw [← hlen]; exact DLay.dst_lt hj)
      rw [hj] at this
      simpa using this
  · simp only [layOf, List.mem_filter, List.mem_range, DLay.acts]
  · have hnd : (layOf ops xs).ch.Nodup := List.Nodup.sublist List.filter_sublist List.nodup_range
    have l1 := (List.getElem?_eq_some_iff.1 h).1
    exact (List.getElem?_inj l1 hnd).1 (h.trans h'.symm)

/-- Is it listed? -/
def inL (listed : Array Bool) (i : Nat) : Prop := listed.getD i false = true

theorem inL_set {l : Array Bool} {i j : Nat} (hi : i < l.size) : inL (l.setIfInBounds i true) j ↔ j = i ∨ inL l j := by
  unfold inL
  simp only [Array.getD_eq_getD_getElem?, Array.getElem?_setIfInBounds]
  by_cases e : i = j
  · subst e; simp [hi]
  · rw [if_neg e]
    constructor
    · exact .inr
    · rintro (h | h)
      · exact (e h.symm).elim
      · exact h
theorem inL_lt {l : Array Bool} {i : Nat} (h : inL l i) : i < l.size := by
  unfold inL at h
  by_cases hi : i < l.size
  · exact hi
  · simp [Array.getD, hi] at h
theorem getD_true {l : Array Bool} {i : Nat} (hi : i < l.size) : l.getD i true = false ↔ ¬ inL l i := by
  unfold inL; simp [Array.getD, hi]

theorem ready_iff {ops : Array Oper} {l : Array Bool} (hs : l.size = ops.size) {i : Nat} : i ∈ Region.ready .any ops l ↔ i < ops.size ∧ ¬ inL l i ∧ ∀ p ∈ preds ops i, inL l p := by
  unfold Region.ready preds
  simp only [List.mem_filter, List.mem_range, Bool.and_eq_true, Bool.not_eq_true']
  constructor
  · rintro ⟨h1, h2, h3⟩
    refine ⟨h1, (getD_true (by omega)).1 h2, fun p hp => ?_⟩
    have e : ops[i]? = some ops[i] := Array.getElem?_eq_getElem h1
    rw [e] at h3 hp
    simp only [Option.map_some, Option.getD_some, Array.all_eq_true_iff_forall_mem, Bool.or_eq_true, Bool.not_eq_true'] at h3
    simp only [List.mem_map, List.mem_filter, Array.mem_toList_iff] at hp
    obtain ⟨x, ⟨hx, hb⟩, rfl⟩ := hp
    rcases h3 x hx with h | h
    · rw [h] at hb; cases hb
    · exact h
  · rintro ⟨h1, h2, h3⟩
    refine ⟨h1, (getD_true (by omega)).2 h2, ?_⟩
    have e : ops[i]? = some ops[i] := Array.getElem?_eq_getElem h1
    rw [e] at h3 ⊢
    simp only [Option.map_some, Option.getD_some, Array.all_eq_true_iff_forall_mem, Bool.or_eq_true, Bool.not_eq_true']
    intro x hx
    by_cases hb : Region.binds .any x = true
    · right
      exact h3 _ (by simp only [List.mem_map, List.mem_filter, Array.mem_toList_iff]; exact ⟨x, ⟨hx, hb⟩, rfl⟩)
    · left; simpa using hb

/-- Whatever a listed one waits for is listed. -/
def Closed (ops : Array Oper) (l : Array Bool) : Prop := ∀ i, inL l i → ∀ p ∈ preds ops i, inL l p

theorem Closed.pre {ops : Array Oper} {l : Array Bool} (hc : Closed ops l) {i j : Nat} (h : Pre ops j i) : (∀ p ∈ preds ops i, inL l p) → inL l j := by
  induction h with
  | edge h => intro hp; exact hp _ h
  | more h _ ih => intro hp; exact ih (hc _ (hp _ h))

theorem all_listed {ops : Array Oper} {l : Array Bool} (hs : l.size = ops.size) (hlt : ∀ i, i < ops.size → ∀ p ∈ preds ops i, p < i) (h : Region.ready .any ops l = []) : ∀ i, i < ops.size → inL l i := by
  intro i
  induction i using Nat.strongRecOn with
  | _ i ih =>
    intro hi
    by_cases hl : inL l i
    · exact hl
    · have : i ∈ Region.ready .any ops l := (ready_iff hs).2 ⟨hi, hl, fun p hp => ih p (hlt i hi p hp) (by have := hlt i hi p hp; omega)⟩
      rw [h] at this; simp at this

end Ram

/- A region that draws its order: what is reckoned at each stage. -/
namespace Ram
open Go
open Go.RowKit (Below Hid)

section
variable (L : DLay) (E0 : Env) (base : Nat)

/-- Has it been reckoned, at this stage, up to this one? -/
def DLay.evd (k b i : Nat) : Prop := (L.acts i = true → i ∈ L.ch.take k) ∧ (L.acts i = false → L.lo i < k ∨ (L.lo i = k ∧ i < b))

/-- The registers as they were when it was reckoned. -/
def Agree (E Ei : Env) (i : Nat) (o : AOper) : Prop :=
  ∀ r ∈ o.regs, ((∀ j, L.dst j = some r → L.bit i j = true) → Ei.get r = E.get r) ∧ (∀ j, L.dst j = some r → L.bit i j = false → Ei.get r = E0.get r)

/-- An operation, reckoned. -/
def ItemOk (k : Nat) (E : Env) (H : AH) (pend : Pend) (i : Nat) (o : AOper) : Prop :=
  ∃ b Ei, Agree L E0 E Ei i o ∧ guardOk Ei o.guard = some b ∧ (b = false → hasE E o.dst (.tup []) ∧ ∀ h x, (i, h, x) ∉ pend) ∧ (b = true → match o.op with
    | .pure p => ∃ v, apure p Ei = some v ∧ hasE E o.dst v
    | .read p => k ≤ L.hi i → ∃ v, aread p Ei H = some v ∧ hasE E o.dst v
    | .alloc p => ∃ obj mk, aalloc p Ei = some (obj, mk) ∧ hasE E o.dst (mk (base + i)) ∧ (k ≤ L.hi i → (i, L.hi i, obj) ∈ pend)
    | _ => False)

/-- What is known of the objects made. -/
structure PendOk (k : Nat) (pend : Pend) : Prop where
  at_ : ∀ i h o, (i, h, o) ∈ pend → i < L.n ∧ h = L.hi i ∧ k ≤ h ∧ o.owns = true ∧ L.acts i = false ∧ (∃ x, L.xs[i]? = some x ∧ isAl x.op = true)
  one : ∀ i h o h' o', (i, h, o) ∈ pend → (i, h', o') ∈ pend → o = o'

structure Reck (k b : Nat) (E : Env) (H : AH) (pend : Pend) : Prop where
  env : ∀ t, (∀ j, L.dst j = some t → ¬ L.evd k b j) → E.get t = E0.get t
  items : ∀ i o, L.xs[i]? = some o → L.acts i = false → L.evd k b i → ItemOk L E0 base k E H pend i o
  pnd : PendOk L k pend
  early : ∀ i h o, (i, h, o) ∈ pend → L.evd k b i
end

variable {L : DLay} {E0 : Env} {base : Nat} {ops : Array Oper}

theorem hasE_putE (E : Env) (dst : Option Nat) (v : V) : hasE (putE E dst v) dst v := by
  cases dst with
  | none => trivial
  | some d => simp [hasE, putE, Tr.get_set]
theorem putE_get {E : Env} {dst : Option Nat} {v : V} {t : Nat} (h : dst ≠ some t) : (putE E dst v).get t = E.get t := by
  cases dst with
  | none => rfl
  | some d => simp only [putE, Tr.get_set]; rw [if_neg]; intro e; subst e; exact h rfl

theorem hasE_keep {E E' : Env} {dst : Option Nat} {v : V} (h : hasE E dst v) (hk : ∀ d, dst = some d → E'.get d = E.get d) : hasE E' dst v := by
  cases dst with
  | none => trivial
  | some d => simp only [hasE] at h ⊢; rw [hk d rfl]; exact h

theorem Agree.keep {E E' Ei : Env} {i : Nat} {o : AOper} (h : Agree L E0 E Ei i o) (hk : ∀ r ∈ o.regs, (∀ j, L.dst j = some r → L.bit i j = true) → E'.get r = E.get r) : Agree L E0 E' Ei i o := by
  intro r hr
  obtain ⟨h1, h2⟩ := h r hr
  exact ⟨fun hj => by rw [hk r hr hj]; exact h1 hj, h2⟩

theorem ItemOk.keep {k : Nat} {E E' : Env} {H : AH} {pend pend' : Pend} {i : Nat} {o : AOper} (h : ItemOk L E0 base k E H pend i o) (hd : ∀ d, o.dst = some d → E'.get d = E.get d)
    (hk : ∀ r ∈ o.regs, (∀ j, L.dst j = some r → L.bit i j = true) → E'.get r = E.get r) (hp : ∀ x, x ∈ pend → x ∈ pend') (hq : ∀ h x, (i, h, x) ∈ pend' → (i, h, x) ∈ pend) : ItemOk L E0 base k E' H pend' i o := by
  obtain ⟨b, Ei, h1, h2, h3, h4⟩ := h
  refine ⟨b, Ei, h1.keep hk, h2, fun hb => ⟨hasE_keep (h3 hb).1 hd, fun x y hm => (h3 hb).2 x y (hq x y hm)⟩, fun hb => ?_⟩
  have h4 := h4 hb
  revert h4
  cases o.op with
  | pure p => exact fun ⟨v, g1, g2⟩ => ⟨v, g1, hasE_keep g2 hd⟩
  | read p => exact fun g hk => let ⟨v, g1, g2⟩ := g hk; ⟨v, g1, hasE_keep g2 hd⟩
  | alloc p => exact fun ⟨obj, mk, g1, g2, g3⟩ => ⟨obj, mk, g1, hasE_keep g2 hd, fun hk => hp _ (g3 hk)⟩
  | _ => exact id

theorem evd_mono {k b k' b' i : Nat} (h : L.evd k b i) (hkb : k < k' ∨ (k = k' ∧ b ≤ b')) : L.evd k' b' i := by
  refine ⟨fun ha => ?_, fun ha => ?_⟩
  · have := h.1 ha
    have hle : k ≤ k' := by omega
    rw [List.mem_take_iff_getElem] at this ⊢
    obtain ⟨t, ht, e⟩ := this
    exact ⟨t, by omega, e⟩
  · rcases h.2 ha with h | ⟨h1, h2⟩ <;> omega

/-- What is reckoned anew is looked at by nothing that was reckoned before, unless from behind. -/
theorem not_seen {k b i j : Nat} (ha : L.acts i = false) (hi : L.evd k b i) (hj : ¬ L.evd k b j) (hb : L.bef j i = true) : False := by
  unfold DLay.bef at hb
  rw [ha] at hb
  have hi2 := hi.2 ha
  cases hj' : L.acts j with
  | false =>
    rw [hj'] at hb
    simp only [Bool.and_eq_true, decide_eq_true_eq] at hb
    exact hj ⟨fun h => (by rw [hj'] at h; cases h), fun _ => by omega⟩
  | true =>
    rw [hj'] at hb
    simp only [List.contains_iff_mem] at hb
    refine hj ⟨fun _ => ?_, fun h => (by rw [hj'] at h; cases h)⟩
    rw [List.mem_take_iff_getElem] at hb ⊢
    obtain ⟨t, ht, e⟩ := hb
    exact ⟨t, by omega, e⟩
theorem bit_irrefl (hL : DOk L ops) {i j : Nat} (h1 : L.bit i j = true) : i ≠ j ∨ ¬ (i < L.n) := by
  by_cases hn : i < L.n
  · left
    intro e; subst e
    have key : ∀ {a c : Nat}, Pre ops a c → c < L.n → a < c := by
      intro a c h
      induction h with
      | edge h => intro hc; exact hL.pre_lt _ hc _ h
      | more h _ ih => intro hc; have := hL.pre_lt _ hc _ h; have := ih (by omega); omega
    have := key (hL.bits _ _ h1) hn
    omega
  · exact .inr hn

theorem aalloc_owns {p : AllocOp} {E : Env} {obj : AO} {mk : Nat → V} (h : aalloc p E = some (obj, mk)) : obj.owns = true := by
  cases p <;> simp only [aalloc] at h <;> (repeat' (split at h)) <;> first | (cases h; done) | (simp only [Option.some.injEq, Prod.mk.injEq] at h; obtain ⟨rfl, _⟩ := h; rfl)

/-- One more reckoned. -/
theorem Reck.step (hL : DOk L ops) {k b : Nat} {E : Env} {H : AH} {pend pend' : Pend} {o : AOper} {v : V} (h : Reck L E0 base k b E H pend) (ho : L.xs[b]? = some o) (ha : L.acts b = false) (hlo : L.lo b = k)
    (hit : ∀ E' , (∀ d, o.dst = some d → E'.get d = (putE E o.dst v).get d) → Agree L E0 E' E b o → ItemOk L E0 base k E' H pend' b o) (hp : ∀ x, x ∈ pend → x ∈ pend') (hpk : PendOk L k pend') (he : ∀ i h o, (i, h, o) ∈ pend' → (i, h, o) ∈ pend ∨ i = b) :
    Reck L E0 base k (b + 1) (putE E o.dst v) H pend' := by
  have hb : ¬ L.evd k b b := fun h => by have := h.2 ha; omega
  have hbn : b < L.n := by rw [← hL.len]; exact (List.getElem?_eq_some_iff.1 ho).1
  have hb1 : L.evd k (b + 1) b := ⟨fun h => (by rw [ha] at h; cases h), fun _ => .inr ⟨hlo, by omega⟩⟩
  have hdst := DLay.dst_of ho
  have hone : ∀ i, L.evd k (b + 1) i → ¬ L.evd k b i → i = b := by
    intro i h1 h2
    by_cases hai : L.acts i = true
    · exact (h2 ⟨h1.1, fun h => (by rw [hai] at h; cases h)⟩).elim
    · have hai : L.acts i = false := by simpa using hai
      have h3 := h1.2 hai
      have h4 : ¬ (L.lo i < k ∨ (L.lo i = k ∧ i < b)) := fun h => h2 ⟨fun h => (by rw [hai] at h; cases h), fun _ => h⟩
      omega
  refine ⟨fun t ht => ?_, fun i x hx hai hev => ?_, hpk, fun i hh oo hm => ?_⟩
  · rw [putE_get (fun e => ht b (by rw [hdst]; exact e) hb1)]
    exact h.env t fun j hj hev => ht j hj (evd_mono hev (by omega))
  · by_cases hold : L.evd k b i
    · refine (h.items i x hx hai hold).keep (fun d hd => putE_get fun e => ?_) (fun r hr hbit => putE_get fun e => ?_) hp (fun x y hm => (he i x y hm).resolve_right fun e => by subst e; exact hb hold)
      · have := hL.uniq i b d (by rw [DLay.dst_of hx]; exact hd) (by rw [hdst]; exact e)
        subst this; exact hb hold
      · have hbr : L.dst b = some r := by rw [hdst]; exact e
        have h1 := hbit b hbr
        rcases hL.sees i x hx r hr b hbr with ⟨_, g⟩ | ⟨g, _⟩
        · exact not_seen hai hold hb g
        · have hin : i < L.n := by rw [← hL.len]; exact (List.getElem?_eq_some_iff.1 hx).1
          have key : ∀ {a c : Nat}, Pre ops a c → c < L.n → a < c := by
            intro a c h
            induction h with
            | edge h => intro hc; exact hL.pre_lt _ hc _ h
            | more h _ ih => intro hc; have := hL.pre_lt _ hc _ h; have := ih (by omega); omega
          have a1 := key (hL.bits _ _ h1) hin
          have a2 := key (hL.bits _ _ g) hbn
          omega
    · have := hone i hev hold; subst this
      have : x = o := by rw [ho] at hx; exact (Option.some.inj hx).symm
      subst this
      refine hit _ (fun d _ => rfl) fun r hr => ⟨fun hbit => ?_, fun j hj hbit => ?_⟩
      · refine (putE_get fun e => ?_).symm
        have h1 := hbit i (by rw [hdst]; exact e)
        rcases bit_irrefl hL h1 with h | h
        · exact h rfl
        · exact h hbn
      · refine h.env r fun j' hj' hev' => ?_
        have := hL.uniq j' j r hj' hj; subst this
        rcases hL.sees i x hx r hr j' hj with ⟨g, _⟩ | ⟨_, g⟩
        · rw [g] at hbit; cases hbit
        · unfold DLay.bef at g
          rw [ha] at g
          cases hj'a : L.acts j' with
          | false =>
            rw [hj'a] at g
            simp only [Bool.and_eq_true, decide_eq_true_eq] at g
            have := hev'.2 hj'a
            omega
          | true =>
            rw [hj'a] at g
            simp only [Bool.not_eq_true', List.contains_eq_mem, decide_eq_false_iff_not] at g
            have := hev'.1 hj'a
            rw [hlo] at g
            exact g this
  · rcases he i hh oo hm with h1 | rfl
    · exact evd_mono (h.early i hh oo h1) (by omega)
    · exact hb1

/-- Nothing to be reckoned here. -/
theorem Reck.skip {k b : Nat} {E : Env} {H : AH} {pend : Pend} (h : Reck L E0 base k b E H pend) (hs : ∀ i, L.evd k (b + 1) i → L.evd k b i) : Reck L E0 base k (b + 1) E H pend :=
  ⟨fun t ht => h.env t fun j hj hev => ht j hj (evd_mono hev (by omega)), fun i o ho ha hev => h.items i o ho ha (hs i hev), h.pnd, fun i x o hm => evd_mono (h.early i x o hm) (by omega)⟩

/-- What is there behind the reckoning of a stage. -/
def DEnd (L : DLay) (E0 : Env) (base k : Nat) (H : AH) (K : Env → Pend → Prop) (E : Env) (pend : Pend) : Prop :=
  ∃ E' pend', K E' pend' ∧ Reck L E0 base k L.n E' H pend' ∧ (∀ x, x ∈ pend → x ∈ pend') ∧ (∀ i h o, (i, h, o) ∈ pend' → (i, h, o) ∈ pend ∨ (L.lo i = k ∧ L.acts i = false)) ∧
      (∀ t, (∀ j, L.dst j = some t → ¬ (L.acts j = false ∧ L.lo j = k)) → E'.get t = E.get t)

theorem ditems_sound (hL : DOk L ops) {k : Nat} {H : AH} {K : Env → Pend → Prop} : ∀ (m b : Nat) {E : Env} {pend : Pend}, b + m = L.n → ditems base H ((List.range' b m).filterMap (L.item k)) E pend K → Reck L E0 base k b E H pend → DEnd L E0 base k H K E pend
  | 0, b, E, pend, hb, h, hr => by
    simp only [List.range'_zero, List.filterMap_nil, ditems] at h
    have : b = L.n := by omega
    subst this
    exact ⟨E, pend, h, hr, fun _ h => h, fun _ _ _ h => .inl h, fun _ _ => rfl⟩
  | m + 1, b, E, pend, hb, h, hr => by
    have hbx : b < L.xs.length := by rw [hL.len]; omega
    obtain ⟨o, ho⟩ : ∃ o, L.xs[b]? = some o := ⟨_, List.getElem?_eq_getElem hbx⟩
    have hact := DLay.acts_of ho
    rw [List.range'_succ, List.filterMap_cons] at h
    have hitem : L.item k b = if isAct o.op then none else if L.lo b = k then some ⟨b, o, L.hi b⟩ else none := by unfold DLay.item; rw [ho]
    rw [hitem] at h
    by_cases ha : isAct o.op = true
    · rw [if_pos ha] at h
      refine ditems_sound hL m (b + 1) (by omega) h (hr.skip fun i hev => ⟨hev.1, fun hai => ?_⟩)
      have hne : i ≠ b := fun e => by subst e; rw [hact, ha] at hai; cases hai
      rcases hev.2 hai with h | h <;> omega
    · rw [if_neg ha] at h
      have ha' : L.acts b = false := by rw [hact]; simpa using ha
      by_cases hlo : L.lo b = k
      · rw [if_pos hlo] at h
        simp only [ditems] at h
        have fin : ∀ v pend', (∀ E' , (∀ d, o.dst = some d → E'.get d = (putE E o.dst v).get d) → Agree L E0 E' E b o → ItemOk L E0 base k E' H pend' b o) → (∀ x, x ∈ pend → x ∈ pend') → PendOk L k pend' → (∀ i h o, (i, h, o) ∈ pend' → (i, h, o) ∈ pend ∨ i = b) →
            ditems base H ((List.range' (b + 1) m).filterMap (L.item k)) (putE E o.dst v) pend' K → DEnd L E0 base k H K E pend := by
          intro v pend' g1 g2 g3 g4 g5
          obtain ⟨E', pend'', k1, k2, k3, k4, k5⟩ := ditems_sound hL m (b + 1) (by omega) g5 (hr.step hL ho ha' hlo g1 g2 g3 g4)
          refine ⟨E', pend'', k1, k2, fun x hx => k3 x (g2 x hx), fun i hh oo hm => ?_, fun t ht => ?_⟩
          · rcases k4 i hh oo hm with h1 | h1
            · rcases g4 i hh oo h1 with h1 | rfl
              · exact .inl h1
              · exact .inr ⟨hlo, ha'⟩
            · exact .inr h1
          · rw [k5 t ht, putE_get]
            intro e
            exact ht b (by rw [DLay.dst_of ho]; exact e) ⟨ha', hlo⟩
        split at h
        · next hg =>
          split at h
          · next p hop =>
            split at h
            · next v hv =>
              refine fin v pend (fun E' hd hag => ⟨true, E, hag, hg, fun hb => (by cases hb), fun _ => ?_⟩) (fun _ h => h) hr.pnd (fun _ _ _ h => .inl h) h
              rw [hop]
              exact ⟨v, hv, hasE_keep (hasE_putE E o.dst v) hd⟩
            · exact h.elim
          · next p hop =>
            split at h
            · next v hv =>
              refine fin v pend (fun E' hd hag => ⟨true, E, hag, hg, fun hb => (by cases hb), fun _ => ?_⟩) (fun _ h => h) hr.pnd (fun _ _ _ h => .inl h) h
              rw [hop]
              exact fun _ => ⟨v, hv, hasE_keep (hasE_putE E o.dst v) hd⟩
            · exact h.elim
          · next p hop =>
            split at h
            · next obj mk hv =>
              have hnew : ∀ h o, (b, h, o) ∉ pend := fun hh oo hm => by have := (hr.early b hh oo hm).2 ha'; omega
              refine fin (mk (base + b)) ((b, L.hi b, obj) :: pend) (fun E' hd hag => ⟨true, E, hag, hg, fun hb => (by cases hb), fun _ => ?_⟩) (fun _ h => List.mem_cons_of_mem _ h) ⟨fun i hh oo hm => ?_, fun i h1 o1 h2 o2 m1 m2 => ?_⟩ (fun i hh oo hm => ?_) h
              · rw [hop]
                exact ⟨obj, mk, hv, hasE_keep (hasE_putE E o.dst _) hd, fun _ => List.mem_cons_self⟩
              · rcases List.mem_cons.1 hm with e | hm
                · simp only [Prod.mk.injEq] at e; obtain ⟨rfl, rfl, rfl⟩ := e
                  exact ⟨by omega, rfl, by have := hL.lohi i (by omega); omega, aalloc_owns hv, ha', o, ho, by rw [hop]; rfl⟩
                · exact hr.pnd.at_ i hh oo hm
              · rcases List.mem_cons.1 m1 with e1 | n1 <;> rcases List.mem_cons.1 m2 with e2 | n2
                · simp only [Prod.mk.injEq] at e1 e2; exact e1.2.2.trans e2.2.2.symm
                · simp only [Prod.mk.injEq] at e1; obtain ⟨rfl, _, _⟩ := e1; exact (hnew _ _ n2).elim
                · simp only [Prod.mk.injEq] at e2; obtain ⟨rfl, _, _⟩ := e2; exact (hnew _ _ n1).elim
                · exact hr.pnd.one i h1 o1 h2 o2 n1 n2
              · rcases List.mem_cons.1 hm with e | hm
                · simp only [Prod.mk.injEq] at e; exact .inr e.1
                · exact .inl hm
            · exact h.elim
          · exact h.elim
        · next hg =>
          exact fin (.tup []) pend (fun E' hd hag => ⟨false, E, hag, hg, fun _ => ⟨hasE_keep (hasE_putE E o.dst _) hd, fun x y hm => by have := (hr.early b x y hm).2 ha'; omega⟩, fun hb => by cases hb⟩) (fun _ h => h) hr.pnd (fun _ _ _ h => .inl h) h
        · exact h.elim
      · rw [if_neg hlo] at h
        refine ditems_sound hL m (b + 1) (by omega) h (hr.skip fun i hev => ⟨hev.1, fun hai => ?_⟩)
        have hne : i ≠ b ∨ L.lo i ≠ k := by
          by_cases e : i = b
          · subst e; exact .inr hlo
          · exact .inl e
        rcases hev.2 hai with h | h <;> omega

end Ram

/- A region that draws its order: whatever the order is, it comes out alike. -/
namespace Ram
open Go
open Go.RowKit (Below Hid)

variable {P : Program} {W0 : World} {ι ι' : Inj} {D D' : Nat → Prop} {N : Nat} {ds : List Deferred} {env : Env} {a : Act} {w w' : World} {H : AH}

theorem bump_get (H : AH) (m i : Nat) : (H.bump m).get i = H.get i := by cases m <;> rfl
theorem bump_next (H : AH) (m : Nat) : (H.bump m).next = H.next + m := by cases m <;> rfl

theorem rel_bump (hR : Rel P W0 ι D H w) (m : Nat) : Rel P W0 ι D (H.bump m) w :=
  ⟨fun i o h => hR.objs i o (by rwa [bump_get] at h), fun i o h => hR.dom i o (by rwa [bump_get] at h), fun i h => by have := hR.lt i h; rw [bump_next]; omega,
    fun i o h => by have := hR.get_lt i o (by rwa [bump_get] at h); rw [bump_next]; omega, fun i j o u h1 h2 => hR.apart i j o u (by rwa [bump_get] at h1) (by rwa [bump_get] at h2),
    fun i o h => hR.new i o (by rwa [bump_get] at h), hR.inw, hR.below⟩

/-- Laid into the heap. -/
theorem rel_flush {id : Nat} {o : AO} (hR : Rel P W0 ι D H w) (hd : D id) (ho : RObj P ι D w (ι id) o) (hap : ∀ j u, H.get j = some u → u.live = true → j ≠ id → (ι j).b ≠ (ι id).b) (hnew : W0.heap.size ≤ (ι id).b) : Rel P W0 ι D (H.set id o) w := by
  refine ⟨fun i u hu => ?_, fun i u hu hl => ?_, hR.lt, fun i u hu => ?_, fun i j u v hu hv h1 h2 hne => ?_, fun i u hu h1 => ?_, hR.inw, hR.below⟩
  · rw [AH.get_set] at hu
    split at hu
    · next e => simp only [Option.some.injEq] at hu; subst hu; subst e; exact ho
    · exact hR.objs i u hu
  · rw [AH.get_set] at hu
    split at hu
    · next e => subst e; exact hd
    · exact hR.dom i u hu hl
  · rw [AH.get_set] at hu
    split at hu
    · next e => subst e; exact hR.lt _ hd
    · exact hR.get_lt i u hu
  · rw [AH.get_set] at hu hv
    have live : u.live = true := by cases u <;> first | rfl | cases h1
    split at hu
    · next e =>
      split at hv
      · next e' => omega
      · next e' => subst e; exact fun h => hap j v hv h2 e' h.symm
    · next e =>
      split at hv
      · next e' => subst e'; exact hap i u hu live e
      · next e' => exact hR.apart i j u v hu hv h1 h2 hne
  · rw [AH.get_set] at hu
    split at hu
    · next e => subst e; exact hnew
    · exact hR.new i u hu h1

/-- An object in a new block, not yet in the heap. -/
theorem rel_early {id n : Nat} {O : Obj} (hR : Rel P W0 ι D H w) (hd : ¬ D id) (hn : id < H.next) (hs : SameOut w w') (hh : w'.heap = w.heap.push O) :
    Rel P W0 (updI ι id ⟨w.heap.size, 0, n⟩) (addD D id) H w' := by
  have he := ext_upd (ι := ι) (p := ⟨w.heap.size, 0, n⟩) hd
  have hold : ∀ b, b < w.heap.size → w'.heap[b]? = w.heap[b]? := fun b hb => by rw [hh, Array.getElem?_push_lt hb]; simp [hb]
  have hlive : ∀ i u, H.get i = some u → u.live = true → updI ι id ⟨w.heap.size, 0, n⟩ i = ι i := fun i u hu hl => (he i (hR.dom i u hu hl)).2
  have own_live : ∀ u : AO, u.owns = true → u.live = true := fun u h => by cases u <;> first | rfl | cases h
  refine ⟨fun i u hu => ?_, fun i u hu hl => .inl (hR.dom i u hu hl), fun i hi => ?_, hR.get_lt, fun i j u v hu hv h1 h2 hne => ?_, fun i u hu h1 => ?_, fun i hi => ?_, below_step hR hs (fun b hb => hold b (Nat.lt_of_lt_of_le hb hR.below.size))⟩
  · by_cases hl : u.live = true
    · rw [hlive i u hu hl]
      exact RObj.mono he (fun _ => hold _ (hR.inw i (hR.dom i u hu hl))) (hR.objs i u hu)
    · cases u with
      | dead => trivial
      | _ => exact (hl rfl).elim
  · rcases hi with hi | hi
    · exact hR.lt i hi
    · omega
  · rw [hlive i u hu (own_live u h1), hlive j v hv h2]; exact hR.apart i j u v hu hv h1 h2 hne
  · rw [hlive i u hu (own_live u h1)]; exact hR.new i u hu h1
  · rw [hh]; simp only [Array.size_push]
    unfold updI
    split
    · simp
    · next e =>
      rcases hi with hi | hi
      · have := hR.inw i hi; omega
      · exact (e hi).elim

variable {ι₀ : Inj} {D₀ : Nat → Prop} {H₀ : AH} {w₀ : World}

theorem stp_early {id n : Nat} {O : Obj} (hR : Rel P W0 ι D H w) (h : Stp ι₀ D₀ H₀ w₀ ι D H w) (hd : ¬ D id) (hid : H₀.next ≤ id) (hs : SameOut w w') (hh : w'.heap = w.heap.push O) :
    Stp ι₀ D₀ H₀ w₀ (updI ι id ⟨w.heap.size, 0, n⟩) (addD D id) H w' := by
  have he := ext_upd (ι := ι) (p := ⟨w.heap.size, 0, n⟩) hd
  have hold : ∀ b, b < w.heap.size → w'.heap[b]? = w.heap[b]? := fun b hb => by rw [hh, Array.getElem?_push_lt hb]; simp [hb]
  have hlive : ∀ i u, H.get i = some u → u.live = true → updI ι id ⟨w.heap.size, 0, n⟩ i = ι i := fun i u hu hl => (he i (hR.dom i u hu hl)).2
  have own_live : ∀ u : AO, u.owns = true → u.live = true := fun u h => by cases u <;> first | rfl | cases h
  refine ⟨h.ext.trans he, fun i hi => ?_, h.next, fun b hb ho => ?_, fun b hb ⟨i, u, h1, h2, h3⟩ => ?_, fun b hb ⟨i, u, h1, h2, h3⟩ => ?_, Nat.le_trans h.size hs.size, hs.os.trans h.os, hs.tape.trans h.tape, hs.output.trans h.output⟩
  · rcases hi with hi | hi
    · exact h.newd i hi
    · subst hi; exact .inr hid
  · rw [hold b (Nat.lt_of_lt_of_le hb h.size)]; exact h.keep b hb ho
  · exact h.own b hb ⟨i, u, h1, h2, by rw [← h3, hlive i u h1 (own_live u h2)]⟩
  · exact h.live b hb ⟨i, u, h1, h2, by rw [← h3, hlive i u h1 h2]⟩

theorem stp_flush {id : Nat} {o : AO} (h : Stp ι₀ D₀ H₀ w₀ ι D H w) (hb : w₀.heap.size ≤ (ι id).b) : Stp ι₀ D₀ H₀ w₀ ι D (H.set id o) w := by
  refine ⟨h.ext, h.newd, h.next, h.keep, fun b hb' ⟨i, u, h1, h2, h3⟩ => ?_, fun b hb' ⟨i, u, h1, h2, h3⟩ => ?_, h.size, h.os, h.tape, h.output⟩
  · rw [AH.get_set] at h1
    split at h1
    · next e => subst e; omega
    · exact h.own b hb' ⟨i, u, h1, h2, h3⟩
  · rw [AH.get_set] at h1
    split at h1
    · next e => subst e; omega
    · exact h.live b hb' ⟨i, u, h1, h2, h3⟩

/-- An object made, not yet in the heap: it lies in a block of its own. -/
structure Held (P : Program) (ι : Inj) (D : Nat → Prop) (H : AH) (w₀ w : World) (id : Nat) (o : AO) : Prop where
  dom : D id
  obj : RObj P ι D w (ι id) o
  apart : ¬ LiveAt ι H (ι id).b
  new : w₀.heap.size ≤ (ι id).b

theorem flush_ok {base k : Nat} (hR : Rel P W0 ι D H w) (hS : Stp ι₀ D₀ H₀ w₀ ι D H w) (hw : W0.heap.size ≤ w₀.heap.size) : ∀ (p : Pend), (∀ i h o, (i, h, o) ∈ p → h = k → Held P ι D H w₀ w (base + i) o ∧ o.owns = true) →
    (∀ i h o j h' o', (i, h, o) ∈ p → (j, h', o') ∈ p → h = k → h' = k → i ≠ j → (ι (base + i)).b ≠ (ι (base + j)).b) →
    Rel P W0 ι D (flushAt base k p H) w ∧ Stp ι₀ D₀ H₀ w₀ ι D (flushAt base k p H) w ∧ (flushAt base k p H).next = H.next ∧
      ∀ j u, (flushAt base k p H).get j = some u → H.get j = some u ∨ ∃ i o, (i, k, o) ∈ p ∧ j = base + i
  | [], _, _ => ⟨hR, hS, rfl, fun _ _ h => .inl h⟩
  | (i, h, o) :: r, h1, h2 => by
    obtain ⟨g1, g2, g3, g4⟩ := flush_ok hR hS hw r (fun i h o hm => h1 i h o (List.mem_cons_of_mem _ hm)) (fun i h o j h' o' hm hm' => h2 i h o j h' o' (List.mem_cons_of_mem _ hm) (List.mem_cons_of_mem _ hm'))
    simp only [flushAt]
    split
    · next e =>
      subst e
      obtain ⟨hh, hown⟩ := h1 i h o List.mem_cons_self rfl
      refine ⟨rel_flush g1 hh.dom hh.obj (fun j u hu hl hne he => ?_) (Nat.le_trans hw hh.new), stp_flush g2 hh.new, g3, fun j u hu => ?_⟩
      · rcases g4 j u hu with h3 | ⟨i', o', hm, rfl⟩
        · exact hh.apart ⟨j, u, h3, hl, he⟩
        · exact h2 i h o i' h o' List.mem_cons_self (List.mem_cons_of_mem _ hm) rfl rfl (fun e => hne (by rw [e])) he.symm
      · rw [AH.get_set] at hu
        split at hu
        · next e => exact .inr ⟨i, o, List.mem_cons_self, e⟩
        · rcases g4 j u hu with h3 | ⟨i', o', hm, e⟩
          · exact .inl h3
          · exact .inr ⟨i', o', List.mem_cons_of_mem _ hm, e⟩
    · refine ⟨g1, g2, g3, fun j u hu => ?_⟩
      rcases g4 j u hu with h3 | ⟨i', o', hm, e⟩
      · exact .inl h3
      · exact .inr ⟨i', o', List.mem_cons_of_mem _ hm, e⟩

theorem mem_rest {k : Nat} : ∀ {p : Pend} {i h : Nat} {o : AO}, (i, h, o) ∈ restAt k p ↔ (i, h, o) ∈ p ∧ h ≠ k
  | [], i, h, o => by simp [restAt]
  | (i', h', o') :: r, i, h, o => by
    simp only [restAt]
    split
    · next e =>
      rw [mem_rest]
      constructor
      · exact fun ⟨a, b⟩ => ⟨List.mem_cons_of_mem _ a, b⟩
      · rintro ⟨a, b⟩
        rcases List.mem_cons.1 a with a | a
        · simp only [Prod.mk.injEq] at a; exact (b (by omega)).elim
        · exact ⟨a, b⟩
    · next e =>
      rw [List.mem_cons, mem_rest, List.mem_cons]
      constructor
      · rintro (a | ⟨a, b⟩)
        · simp only [Prod.mk.injEq] at a; obtain ⟨rfl, rfl, rfl⟩ := a; exact ⟨.inl rfl, e⟩
        · exact ⟨.inr a, b⟩
      · rintro ⟨a | a, b⟩
        · exact .inl a
        · exact .inr ⟨a, b⟩

theorem dchk_mem {env : Env} {H : AH} : ∀ {l : List AOper} {o : AOper} {p : ReadOp}, dchk env H l → o ∈ l → o.op = .read p → guardOk env o.guard = some true → ∃ v, aread p env H = some v ∧ hasE env o.dst v
  | [], o, p, _, h, _, _ => by simp at h
  | x :: r, o, p, hd, hm, hp, hg => by
    simp only [dchk] at hd
    rcases List.mem_cons.1 hm with rfl | hm
    · have := hd.1
      rw [hg] at this
      simp only [hp] at this
      exact this
    · exact dchk_mem hd.2 hm hp hg

/-- What is to be shown behind the reckoning of a stage. -/
def Rest (P : Program) (W0 : World) (Q : AExit → Env → AH → Prop) (L : DLay) (base m k : Nat) (H : AH) (E : Env) (pend : Pend) : Prop :=
  match (L.ch[k]?).bind fun c => L.xs[c]? with
  | none => Q .normal E (flushAt base k pend H)
  | some o => match guardOk E o.guard with
    | some true => aop1 P W0 Q o.op E (flushAt base k pend H) fun v H' => dstages P W0 Q base (L.stages (k + 1) m) (k + 1) (putE E o.dst v) H' (restAt k pend)
    | some false => dstages P W0 Q base (L.stages (k + 1) m) (k + 1) (putE E o.dst (.tup [])) (flushAt base k pend H) (restAt k pend)
    | none => False

variable {L : DLay} {E0 : Env} {base : Nat} {ops : Array Oper}

/-- A stage entered. -/
theorem stage_in (hL : DOk L ops) {Q : AExit → Env → AH → Prop} {m k : Nat} {E : Env} {H : AH} {pend : Pend} (h : dstages P W0 Q base (L.stages k (m + 1)) k E H pend) (hr : dchk E H ((List.range L.n).filterMap (L.again k)) → Reck L E0 base k 0 E H pend) :
    DEnd L E0 base k H (Rest P W0 Q L base m k H) E pend := by
  simp only [DLay.stages, dstages, DLay.stage] at h
  obtain ⟨h1, h2⟩ := h
  rw [List.range_eq_range'] at h2
  exact ditems_sound hL L.n 0 (by omega) h2 (hr h1)

/-- From a stage to the next one, over the operation that acts between them. -/
theorem Reck.next (hL : DOk L ops) {k i : Nat} {E : Env} {H H' : AH} {pend : Pend} {o : AOper} {v : V} (h : Reck L E0 base k L.n E H pend) (hi : L.ch[k]? = some i) (ho : L.xs[i]? = some o) (hc : dchk (putE E o.dst v) H' ((List.range L.n).filterMap (L.again (k + 1)))) :
    Reck L E0 base (k + 1) 0 (putE E o.dst v) H' (restAt k pend) := by
  have hact : L.acts i = true := ((hL.acts i).1 (List.mem_of_getElem? hi)).2
  have hevi : ¬ L.evd k L.n i := fun h => by
    have := h.1 hact
    rw [List.mem_take_iff_getElem] at this
    obtain ⟨t, ht, e⟩ := this
    have : t = k := hL.nodup t k i (by rw [List.getElem?_eq_getElem (by omega), e]) hi
    omega
  have hev1 : L.evd (k + 1) 0 i := ⟨fun _ => by
    rw [List.mem_take_iff_getElem]
    have := List.getElem?_eq_some_iff.1 hi
    obtain ⟨hk, e⟩ := this
    exact ⟨k, by omega, e⟩, fun h => (by rw [hact] at h; cases h)⟩
  have hdst := DLay.dst_of ho
  have back : ∀ j x, L.xs[j]? = some x → L.acts j = false → L.evd (k + 1) 0 j → L.evd k L.n j := by
    intro j x hx ha he
    have hj : j < L.n := by rw [← hL.len]; exact (List.getElem?_eq_some_iff.1 hx).1
    refine ⟨fun h => (by rw [ha] at h; cases h), fun _ => ?_⟩
    have := he.2 ha
    omega
  refine ⟨fun t ht => ?_, fun j x hx ha hev => ?_, ⟨fun j hh o hm => ?_, fun j h1 o1 h2 o2 m1 m2 => ?_⟩, fun j hh o hm => ?_⟩
  · rw [putE_get (fun e => ht i (by rw [hdst]; exact e) hev1)]
    exact h.env t fun j hj hev => ht j hj (evd_mono hev (by omega))
  · have hold := back j x hx ha hev
    have hkd : ∀ d, x.dst = some d → (putE E o.dst v).get d = E.get d := fun d hd => putE_get fun e => by
      have := hL.uniq j i d (by rw [DLay.dst_of hx]; exact hd) (by rw [hdst]; exact e)
      subst this; exact hevi hold
    have hkr : ∀ r ∈ x.regs, (∀ j', L.dst j' = some r → L.bit j j' = true) → (putE E o.dst v).get r = E.get r := fun r hr hbit => putE_get fun e => by
      have hbr : L.dst i = some r := by rw [hdst]; exact e
      have h1 := hbit i hbr
      rcases hL.sees j x hx r hr i hbr with ⟨_, g⟩ | ⟨g, _⟩
      · exact not_seen ha hold hevi g
      · have key : ∀ {a c : Nat}, Pre ops a c → c < L.n → a < c := by
          intro a c h
          induction h with
          | edge h => intro hc; exact hL.pre_lt _ hc _ h
          | more h _ ih => intro hc; have := hL.pre_lt _ hc _ h; have := ih (by omega); omega
        have hj : j < L.n := by rw [← hL.len]; exact (List.getElem?_eq_some_iff.1 hx).1
        have a1 := key (hL.bits _ _ h1) hj
        have a2 := key (hL.bits _ _ g) ((hL.acts i).1 (List.mem_of_getElem? hi)).1
        omega
    obtain ⟨b, Ei, h1, h2, h3, h4⟩ := h.items j x hx ha hold
    have h1' := h1.keep hkr
    refine ⟨b, Ei, h1', h2, fun hb => ⟨hasE_keep (h3 hb).1 hkd, fun x y hm => (h3 hb).2 x y (mem_rest.1 hm).1⟩, fun hb => ?_⟩
    have h4 := h4 hb
    have hj : j < L.n := by rw [← hL.len]; exact (List.getElem?_eq_some_iff.1 hx).1
    cases hop : x.op with
    | pure p => rw [hop] at h4; obtain ⟨v, g1, g2⟩ := h4; exact ⟨v, g1, hasE_keep g2 hkd⟩
    | read p =>
      simp only
      intro hk
      have hlo : L.lo j < k + 1 := by have := hev.2 ha; omega
      have hsame : SameOn x.regs Ei (putE E o.dst v) := fun r hr => (h1' r hr).1 fun j' hj' => hL.reads j x p hx hop (by omega) r hr j' hj'
      have hmem : x ∈ (List.range L.n).filterMap (L.again (k + 1)) := by
        rw [List.mem_filterMap]
        refine ⟨j, List.mem_range.2 hj, ?_⟩
        unfold DLay.again
        rw [hx]
        simp only [hop]
        rw [if_pos ⟨hlo, hk⟩]
      subst hb
      obtain ⟨u, g1, g2⟩ := dchk_mem hc hmem hop (by rw [← guard_same hsame]; exact h2)
      have hpr : SameOn p.regs Ei (putE E o.dst v) := by
        unfold AOper.regs at hsame
        rw [hop] at hsame
        exact hsame.left
      exact ⟨u, by rw [aread_same hpr]; exact g1, g2⟩
    | alloc p =>
      rw [hop] at h4; obtain ⟨obj, mk, g1, g2, g3⟩ := h4
      exact ⟨obj, mk, g1, hasE_keep g2 hkd, fun hk => mem_rest.2 ⟨g3 (by omega), by omega⟩⟩
    | act p => rw [hop] at h4; exact h4.elim
    | call f xs => rw [hop] at h4; exact h4.elim
    | callV g xs => rw [hop] at h4; exact h4.elim
    | pan x => rw [hop] at h4; exact h4.elim
  · obtain ⟨hm, hne⟩ := mem_rest.1 hm
    obtain ⟨p1, p2, p3, p4⟩ := h.pnd.at_ j _ o hm
    exact ⟨p1, p2, by omega, p4⟩
  · exact h.pnd.one j h1 o1 h2 o2 (mem_rest.1 m1).1 (mem_rest.1 m2).1
  · exact ⟨fun ha => (by rw [(h.pnd.at_ j _ o (mem_rest.1 hm).1).2.2.2.2.1] at ha; cases ha), fun ha => by have := (h.early j _ o (mem_rest.1 hm).1).2 ha; omega⟩

end Ram

/- A region that draws its order: the rule is true of the model. -/
namespace Ram
open Go
open Go.RowKit (Below Hid)

section
variable (P : Program) (W0 : World) (N : Nat) (ds : List Deferred) (L : DLay) (ops : Array Oper) (E0 : Env) (base : Nat) (ι₀ : Inj) (D₀ : Nat → Prop) (H₀ : AH) (w₀ : World)

/-- What holds while the region runs: so many have acted. -/
structure DInv (k : Nat) (E : Env) (H : AH) (pend : Pend) (listed : Array Bool) (a : Act) (w : World) (ι : Inj) (D : Nat → Prop) (M : Env) : Prop where
  size : listed.size = ops.size
  closed : Closed ops listed
  done : ∀ t c : Nat, L.ch[t]? = some c → (inL listed c ↔ t < k)
  reck : Reck L E0 base k L.n E H pend
  env : REnv ds ι D N M a
  m1 : ∀ t j, L.dst j = some t → inL listed j → M.get t = E.get t
  m2 : ∀ t, (∀ j, L.dst j = some t → ¬ inL listed j) → M.get t = E0.get t
  rel : Rel P W0 ι D H w
  stp : Stp ι₀ D₀ H₀ w₀ ι D H w
  next : ∀ i x, L.xs[i]? = some x → isAl x.op = true → base + i < H.next
  free : ∀ i x, L.xs[i]? = some x → isAl x.op = true → ¬ inL listed i → ¬ D (base + i)
  held : ∀ i h o, (i, h, o) ∈ pend → inL listed i → Held P ι D H w₀ w (base + i) o
  apart : ∀ i h o j h' o', (i, h, o) ∈ pend → (j, h', o') ∈ pend → inL listed i → inL listed j → i ≠ j → (ι (base + i)).b ≠ (ι (base + j)).b
end

variable {P : Program} {W0 : World} {N : Nat} {ds : List Deferred} {L : DLay} {ops : Array Oper} {E0 : Env} {base : Nat} {ι₀ : Inj} {D₀ : Nat → Prop} {H₀ : AH} {w₀ : World}
variable {k : Nat} {E : Env} {H : AH} {pend : Pend} {listed : Array Bool} {a : Act} {w : World} {ι : Inj} {D : Nat → Prop} {M : Env}

theorem pre_lt (hL : DOk L ops) {x y : Nat} (h : Pre ops x y) : y < L.n → x < y := by
  induction h with
  | edge h => intro hc; exact hL.pre_lt _ hc _ h
  | more h _ ih => intro hc; have := hL.pre_lt _ hc _ h; have := ih (by omega); omega

theorem DInv.lo_le (hL : DOk L ops) (h : DInv P W0 N ds L ops E0 base ι₀ D₀ H₀ w₀ k E H pend listed a w ι D M) {i : Nat} (hp : ∀ p ∈ preds ops i, inL listed p) : L.lo i ≤ k := by
  by_cases hk : k < L.lo i
  · obtain ⟨c, h1, h2⟩ := pfx_lt hk
    have := (h.done k c h1).1 (h.closed.pre (hL.bits _ _ h2) hp)
    omega
  · omega
theorem DInv.le_hi (hL : DOk L ops) (h : DInv P W0 N ds L ops E0 base ι₀ D₀ H₀ w₀ k E H pend listed a w ι D M) {i : Nat} (hn : ¬ inL listed i) (hk : k ≤ L.ch.length) : k ≤ L.hi i := by
  by_cases hlt : L.hi i < k
  · have hl : L.hi i < L.ch.length := by omega
    have hc : L.ch[L.hi i]? = some L.ch[L.hi i] := List.getElem?_eq_getElem hl
    have h2 := pfx_at hc
    simp only [Bool.not_eq_false'] at h2
    have hin := (h.done _ _ hc).2 hlt
    exact (hn (h.closed.pre (hL.bits _ _ h2) (h.closed _ hin))).elim
  · omega

theorem evd_item (hL : DOk L ops) {i : Nat} (ha : L.acts i = false) (hn : i < L.n) : L.evd k L.n i ↔ L.lo i ≤ k := by
  constructor
  · intro h; have := h.2 ha; omega
  · intro h; exact ⟨fun h => (by rw [ha] at h; cases h), fun _ => by omega⟩

/-- What an operation sees, if it is ready. -/
theorem DInv.same (hL : DOk L ops) (h : DInv P W0 N ds L ops E0 base ι₀ D₀ H₀ w₀ k E H pend listed a w ι D M) {i : Nat} {o : AOper} {Ei : Env} (ho : L.xs[i]? = some o) (hn : ¬ inL listed i) (hp : ∀ p ∈ preds ops i, inL listed p)
    (hag : ∀ r ∈ o.regs, ((∀ j, L.dst j = some r → L.bit i j = true) → Ei.get r = E.get r) ∧ (∀ j, L.dst j = some r → L.bit i j = false → Ei.get r = E0.get r)) : SameOn o.regs Ei M := by
  intro r hr
  obtain ⟨g1, g2⟩ := hag r hr
  by_cases hw : ∃ j, L.dst j = some r
  · obtain ⟨j, hj⟩ := hw
    cases hb : L.bit i j with
    | true =>
      rw [g1 fun j' hj' => by rw [hL.uniq j' j r hj' hj]; exact hb]
      exact (h.m1 r j hj (h.closed.pre (hL.bits _ _ hb) hp)).symm
    | false =>
      rw [g2 j hj hb]
      refine (h.m2 r fun j' hj' hin => ?_).symm
      have := hL.uniq j' j r hj' hj; subst this
      rcases hL.sees i o ho r hr j' hj with ⟨g, _⟩ | ⟨g, _⟩
      · rw [g] at hb; cases hb
      · exact hn (h.closed.pre (hL.bits _ _ g) (h.closed _ hin))
  · rw [g1 fun j hj => (hw ⟨j, hj⟩).elim, h.reck.env r fun j hj => (hw ⟨j, hj⟩).elim, h.m2 r fun j hj => (hw ⟨j, hj⟩).elim]

/-- One more is listed, that is no actor. -/
theorem DInv.mark (hL : DOk L ops) (h : DInv P W0 N ds L ops E0 base ι₀ D₀ H₀ w₀ k E H pend listed a w ι D M) {i : Nat} {o : AOper} {v : V} {a' : Act} {w' : World} {ι' : Inj} {D' : Nat → Prop} (ho : L.xs[i]? = some o) (ha : L.acts i = false) (hn : ¬ inL listed i) (hp : ∀ p ∈ preds ops i, inL listed p)
    (hv : hasE E o.dst v) (he : REnv ds ι' D' N (putE M o.dst v) a') (hR : Rel P W0 ι' D' H w') (hs : Stp ι₀ D₀ H₀ w₀ ι' D' H w')
    (hfree : ∀ j, j ≠ i → ¬ D (base + j) → ¬ D' (base + j)) (hheld : ∀ j h o, (j, h, o) ∈ pend → j ≠ i → Held P ι D H w₀ w (base + j) o → Held P ι' D' H w₀ w' (base + j) o)
    (hheld' : ∀ h o, (i, h, o) ∈ pend → Held P ι' D' H w₀ w' (base + i) o) (hap : ∀ j, j ≠ i → D (base + j) → (ι' (base + j)).b ≠ (ι' (base + i)).b) (hsame : ∀ j, j ≠ i → D (base + j) → ι' (base + j) = ι (base + j))
    (hal : isAl o.op = false → ∀ h x, (i, h, x) ∉ pend) :
    DInv P W0 N ds L ops E0 base ι₀ D₀ H₀ w₀ k E H pend (listed.setIfInBounds i true) a' w' ι' D' (putE M o.dst v) := by
  have hi : i < listed.size := by rw [h.size, ← hL.n, ← hL.len]; exact (List.getElem?_eq_some_iff.1 ho).1
  have hdst := DLay.dst_of ho
  refine ⟨by simp [h.size], fun j hj p hpj => ?_, fun t c hc => ?_, h.reck, he, fun t j hj hl => ?_, fun t ht => ?_, hR, hs, h.next, fun j x hx hxa hl => ?_, fun j hh oo hm hl => ?_, fun j1 h1 o1 j2 h2 o2 m1 m2 l1 l2 hne => ?_⟩
  · rw [inL_set hi] at hj ⊢
    rcases hj with rfl | hj
    · exact .inr (hp p hpj)
    · exact .inr (h.closed j hj p hpj)
  · rw [inL_set hi]
    constructor
    · rintro (rfl | hc')
      · have := ((hL.acts c).1 (List.mem_of_getElem? hc)).2
        rw [ha] at this; cases this
      · exact (h.done t c hc).1 hc'
    · exact fun ht => .inr ((h.done t c hc).2 ht)
  · rw [inL_set hi] at hl
    by_cases e : o.dst = some t
    · rw [e] at hv ⊢
      simp only [hasE] at hv
      rw [hv]; simp [putE, Tr.get_set]
    · rw [putE_get e]
      rcases hl with rfl | hl
      · exact (e (by rw [← hdst]; exact hj)).elim
      · exact h.m1 t j hj hl
  · rw [putE_get fun e => ht i (by rw [hdst]; exact e) ((inL_set hi).2 (.inl rfl))]
    exact h.m2 t fun j hj hl => ht j hj ((inL_set hi).2 (.inr hl))
  · have hji : j ≠ i := fun e => hl ((inL_set hi).2 (.inl e))
    exact hfree j hji (h.free j x hx hxa fun h => hl ((inL_set hi).2 (.inr h)))
  · by_cases e : j = i
    · subst e; exact hheld' hh oo hm
    · rcases (inL_set hi).1 hl with h1 | h1
      · exact (e h1).elim
      · exact hheld j hh oo hm e (h.held j hh oo hm h1)
  · by_cases e1 : j1 = i
    · subst e1
      have e2 : j2 ≠ j1 := fun e => hne e.symm
      rcases (inL_set hi).1 l2 with g | g
      · exact (e2 g).elim
      · exact fun e => hap j2 e2 (h.held j2 h2 o2 m2 g).dom e.symm
    · rcases (inL_set hi).1 l1 with g1 | g1
      · exact (e1 g1).elim
      · by_cases e2 : j2 = i
        · subst e2; exact hap j1 e1 (h.held j1 h1 o1 m1 g1).dom
        · rcases (inL_set hi).1 l2 with g2 | g2
          · exact (e2 g2).elim
          · rw [hsame j1 e1 (h.held j1 h1 o1 m1 g1).dom, hsame j2 e2 (h.held j2 h2 o2 m2 g2).dom]
            exact h.apart j1 h1 o1 j2 h2 o2 m1 m2 g1 g2 hne

/-- An operation that is no actor, in its turn. -/
theorem DInv.item {ro : Option Nat} (hL : DOk L ops) (hx : compOpers P N ops ops.toList = some L.xs) (hb : H₀.next ≤ base) (h : DInv P W0 N ds L ops E0 base ι₀ D₀ H₀ w₀ k E H pend listed a w ι D M) {i : Nat} (ha : L.acts i = false) (hi : i < ops.size) (hn : ¬ inL listed i) (hp : ∀ p ∈ preds ops i, inL listed p) (hk : k ≤ L.ch.length)
    {next : Act → World → Prop} {Q' : Exit → Act → World → Prop}
    (hnext : ∀ a' w' ι' D' M', DInv P W0 N ds L ops E0 base ι₀ D₀ H₀ w₀ k E H pend (listed.setIfInBounds i true) a' w' ι' D' M' → next a' w') : wpOpIn (Fw ro) 0 P ops Q' i next a w := by
  have hil : i < L.xs.length := by rw [hL.len, hL.n]; exact hi
  obtain ⟨o, ho⟩ : ∃ o, L.xs[i]? = some o := ⟨_, List.getElem?_eq_getElem hil⟩
  obtain ⟨oo, hoo, hc⟩ := compOpers_get hx ho
  have hoo : ops[i]? = some oo := by simpa using hoo
  obtain ⟨c1, c2, c3, c4⟩ := compOper_inv hc
  have hin : i < L.n := by rw [hL.n]; exact hi
  have hlo := h.lo_le hL hp
  have hhi := h.le_hi hL hn hk
  obtain ⟨b, Ei, hag, hg, hf, ht⟩ := h.reck.items i o ho ha ((evd_item hL ha hin).2 hlo)
  have hsame := h.same hL ho hn hp hag
  have hgM : guardOk M o.guard = some b := by rw [← guard_same hsame]; exact hg
  have hopsame : SameOn o.op.regs Ei M := by unfold AOper.regs at hsame; exact hsame.left
  have hwant := guard_sound h.env c4 hgM
  have hnoal : ∀ hh x, (i, hh, x) ∈ pend → isAl o.op = true := fun hh x hm => by
    obtain ⟨y, g1, g2⟩ := (h.reck.pnd.at_ i hh x hm).2.2.2.2.2
    rw [ho] at g1; simp only [Option.some.injEq] at g1; subst g1; exact g2
  unfold wpOpIn
  rw [hoo]
  simp only
  have stay : ∀ v c, hasE E o.dst v → RV ι D v c → (∀ hh x, (i, hh, x) ∉ pend) → DInv P W0 N ds L ops E0 base ι₀ D₀ H₀ w₀ k E H pend (listed.setIfInBounds i true) (a.put oo.dst c) w ι D (putE M o.dst v) := by
    intro v c hv hr hno
    have he : REnv ds ι D N (putE M o.dst v) (a.put oo.dst c) := by rw [c2]; exact h.env.putE c3 hr
    have hi' : i < listed.size := by rw [h.size]; exact hi
    have hdst := DLay.dst_of ho
    refine ⟨by simp [h.size], fun j hj p hpj => ?_, fun t c hc => ?_, h.reck, he, fun t j hj hl => ?_, fun t ht => ?_, h.rel, h.stp, h.next, fun j x hx hxa hl => ?_, fun j hh oo hm hl => ?_, fun j1 h1 o1 j2 h2 o2 m1 m2 l1 l2 hne => ?_⟩
    · rw [inL_set hi'] at hj ⊢
      rcases hj with rfl | hj
      · exact .inr (hp p hpj)
      · exact .inr (h.closed j hj p hpj)
    · rw [inL_set hi']
      constructor
      · rintro (rfl | hc')
        · have := ((hL.acts c).1 (List.mem_of_getElem? hc)).2
          rw [ha] at this; cases this
        · exact (h.done t c hc).1 hc'
      · exact fun ht => .inr ((h.done t c hc).2 ht)
    · rw [inL_set hi'] at hl
      by_cases e : o.dst = some t
      · rw [e] at hv ⊢
        simp only [hasE] at hv
        rw [hv]; simp [putE, Tr.get_set]
      · rw [putE_get e]
        rcases hl with rfl | hl
        · exact (e (by rw [← hdst]; exact hj)).elim
        · exact h.m1 t j hj hl
    · rw [putE_get fun e => ht i (by rw [hdst]; exact e) ((inL_set hi').2 (.inl rfl))]
      exact h.m2 t fun j hj hl => ht j hj ((inL_set hi').2 (.inr hl))
    · exact h.free j x hx hxa fun h => hl ((inL_set hi').2 (.inr h))
    · rcases (inL_set hi').1 hl with rfl | h1
      · exact (hno _ _ hm).elim
      · exact h.held j hh oo hm h1
    · rcases (inL_set hi').1 l1 with rfl | g1
      · exact (hno _ _ m1).elim
      · rcases (inL_set hi').1 l2 with rfl | g2
        · exact (hno _ _ m2).elim
        · exact h.apart j1 h1 o1 j2 h2 o2 m1 m2 g1 g2 hne
  have runs : ∀ c w', Runs P a oo w c w' → next (a.put oo.dst c) w' → oo.wpIn (Fw ro) 0 P a w next Q' := by
    intro c w' hr hn
    refine fw_op c1 ?_
    rcases hr with hr | ⟨hr, rfl⟩
    · rw [hr]; exact hn
    · rw [hr]; exact hn
  cases b with
  | false =>
    rw [if_neg (by rw [hwant]; simp)]
    refine ⟨fun _ _ => trivial, ?_⟩
    exact hnext _ _ _ _ _ (stay (.tup []) undef (hf rfl).1 rv_undef (hf rfl).2)
  | true =>
    rw [if_pos hwant]
    have ht := ht rfl
    cases hop : o.op with
    | pure p =>
      rw [hop] at ht c1 hopsame
      obtain ⟨v, g1, g2⟩ := ht
      obtain ⟨c, r1, r2⟩ := pure_sound (w := w) c1 (by rw [← apure_same hopsame]; exact g1) h.env
      exact runs c w r1 (hnext _ _ _ _ _ (stay v c g2 r2 (fun hh x hm => by have := hnoal hh x hm; rw [hop] at this; cases this)))
    | read p =>
      rw [hop] at ht c1 hopsame
      obtain ⟨v, g1, g2⟩ := ht hhi
      obtain ⟨c, r1, r2⟩ := read_sound h.rel c1 (by rw [← aread_same hopsame]; exact g1) h.env
      exact runs c w r1 (hnext _ _ _ _ _ (stay v c g2 r2 (fun hh x hm => by have := hnoal hh x hm; rw [hop] at this; cases this)))
    | alloc p =>
      rw [hop] at ht c1 hopsame
      obtain ⟨obj, mk, g1, g2, g3⟩ := ht
      have g3 := g3 hhi
      obtain ⟨c, w', O, n, r1, r2, r3, r4⟩ := alloc_sound c1 (by rw [← aalloc_same hopsame]; exact g1) h.env w
      have hfr := h.free i o ho (by rw [hop]; rfl) hn
      obtain ⟨q1, q2⟩ := r4 (base + i) hfr
      have hext := ext_upd (ι := ι) (p := ⟨w.heap.size, 0, n⟩) hfr
      refine runs c w' r1 (hnext _ _ _ _ _ (h.mark hL (v := mk (base + i)) ho ha hn hp g2 (ι' := updI ι (base + i) ⟨w.heap.size, 0, n⟩) (D' := addD D (base + i)) ?_ ?_ ?_ ?_ ?_ ?_ ?_ ?_ ?_))
      · rw [c2]; exact (h.env.ext hext).putE c3 q2
      · exact rel_early h.rel hfr (h.next i o ho (by rw [hop]; rfl)) r2 r3
      · exact stp_early h.rel h.stp hfr (by omega) r2 r3
      · rintro j hj hd (hd' | hd')
        · exact hd hd'
        · omega
      · intro j hh x hm hj hH
        have e := (hext _ hH.dom).2
        have hlt := h.rel.inw _ hH.dom
        refine ⟨.inl hH.dom, ?_, ?_, ?_⟩
        · rw [e]
          exact RObj.mono hext (fun _ => by rw [r3, Array.getElem?_push_lt hlt]; simp [hlt]) hH.obj
        · rw [e]
          rintro ⟨q, u, u1, u2, u3⟩
          exact hH.apart ⟨q, u, u1, u2, by rw [← u3, (hext _ (h.rel.dom q u u1 u2)).2]⟩
        · rw [e]; exact hH.new
      · intro hh x hm
        have hox : x = obj := h.reck.pnd.one i _ _ _ _ hm g3
        subst hox
        have e : updI ι (base + i) ⟨w.heap.size, 0, n⟩ (base + i) = ⟨w.heap.size, 0, n⟩ := by unfold updI; rw [if_pos rfl]
        refine ⟨.inr rfl, by rw [e]; exact q1, ?_, by rw [e]; exact h.stp.size⟩
        rw [e]
        rintro ⟨q, u, u1, u2, u3⟩
        have hdq := h.rel.dom q u u1 u2
        rw [(hext _ hdq).2] at u3
        have := h.rel.inw q hdq
        simp only at u3
        omega
      · intro j hj hd
        have e : updI ι (base + i) ⟨w.heap.size, 0, n⟩ (base + i) = ⟨w.heap.size, 0, n⟩ := by unfold updI; rw [if_pos rfl]
        rw [e, (hext _ hd).2]
        have := h.rel.inw _ hd
        simp only; omega
      · intro j hj hd
        exact (hext _ hd).2
      · intro hal; rw [hop] at hal; cases hal
    | act p => rw [hop] at ht; exact ht.elim
    | call f xs => rw [hop] at ht; exact ht.elim
    | callV g xs => rw [hop] at ht; exact ht.elim
    | pan x => rw [hop] at ht; exact ht.elim

end Ram

/- A region that draws its order: the operations that act; the whole. -/
namespace Ram
open Go
open Go.RowKit (Below Hid)

variable {P : Program} {W0 : World} {N : Nat} {ds : List Deferred} {L : DLay} {ops : Array Oper} {E0 : Env} {base : Nat} {ι₀ : Inj} {D₀ : Nat → Prop} {H₀ : AH} {w₀ : World}
variable {k : Nat} {E : Env} {H : AH} {pend : Pend} {listed : Array Bool} {a : Act} {w : World} {ι : Inj} {D : Nat → Prop} {M : Env}

/-- The objects that are ready are laid into the heap. -/
theorem DInv.flush (hW : W0.heap.size ≤ w₀.heap.size) (h : DInv P W0 N ds L ops E0 base ι₀ D₀ H₀ w₀ k E H pend listed a w ι D M) (hl : ∀ i o, (i, k, o) ∈ pend → inL listed i) :
    Rel P W0 ι D (flushAt base k pend H) w ∧ Stp ι₀ D₀ H₀ w₀ ι D (flushAt base k pend H) w ∧ (flushAt base k pend H).next = H.next ∧
      ∀ j u, (flushAt base k pend H).get j = some u → H.get j = some u ∨ ∃ i o, (i, k, o) ∈ pend ∧ j = base + i :=
  flush_ok h.rel h.stp hW pend (fun i hh o hm e => by subst e; exact ⟨h.held i _ o hm (hl i o hm), (h.reck.pnd.at_ i _ o hm).2.2.2.1⟩)
    (fun i h1 o j h2 o' m1 m2 e1 e2 hne => by subst e1; subst e2; exact h.apart i _ o j _ o' m1 m2 (hl i o m1) (hl j o' m2) hne)

theorem DInv.actor {ro : Option Nat} (hL : DOk L ops) (hx : compOpers P N ops ops.toList = some L.xs) (hW : W0.heap.size ≤ w₀.heap.size) (h : DInv P W0 N ds L ops E0 base ι₀ D₀ H₀ w₀ k E H pend listed a w ι D M) {i m : Nat} (ha : L.acts i = true) (hi : i < ops.size) (hn : ¬ inL listed i) (hp : ∀ p ∈ preds ops i, inL listed p)
    {next : Act → World → Prop} {Q : AExit → Env → AH → Prop} {Q' : Exit → Act → World → Prop} (hrest : Rest P W0 Q L base m k H E pend)
    (hnext : ∀ m' E' H' pend' a' w' ι' D' M', DInv P W0 N ds L ops E0 base ι₀ D₀ H₀ w₀ (k + 1) E' H' pend' (listed.setIfInBounds i true) a' w' ι' D' M' → Rest P W0 Q L base m' (k + 1) H' E' pend' → k + 1 ≤ L.ch.length → next a' w')
    (hpan : ∀ e a' w', Lift P ds W0 N Q ι₀ D₀ H₀ w₀ e a' w' → Q' e a' w') : wpOpIn (Fw ro) 0 P ops Q' i next a w := by
  have hil : i < L.xs.length := by rw [hL.len, hL.n]; exact hi
  obtain ⟨o, ho⟩ : ∃ o, L.xs[i]? = some o := ⟨_, List.getElem?_eq_getElem hil⟩
  obtain ⟨oo, hoo, hc⟩ := compOpers_get hx ho
  have hoo : ops[i]? = some oo := by simpa using hoo
  obtain ⟨c1, c2, c3, c4⟩ := compOper_inv hc
  have hdst := DLay.dst_of ho
  have hi' : i < listed.size := by rw [h.size]; exact hi
  -- its place
  obtain ⟨t, ht⟩ := List.mem_iff_getElem?.1 ((hL.acts i).2 ⟨by rw [hL.n]; exact hi, ha⟩)
  have htk : t = k := by
    have h1 : ¬ t < k := fun hlt => hn ((h.done t i ht).2 hlt)
    by_cases h2 : k < t
    · obtain ⟨s, rfl⟩ : ∃ s, t = s + 1 := ⟨t - 1, by omega⟩
      have hlen := (List.getElem?_eq_some_iff.1 ht).1
      have hs : L.ch[s]? = some L.ch[s] := List.getElem?_eq_getElem (by omega)
      have := (h.done s _ hs).1 (h.closed.pre (hL.chain s _ i hs ht) hp)
      omega
    · omega
  subst htk
  have hklen : t < L.ch.length := (List.getElem?_eq_some_iff.1 ht).1
  have hsame : SameOn o.regs E M := by
    refine h.same hL ho hn hp fun r hr => ⟨fun _ => rfl, fun j hj hb => h.reck.env r fun j' hj' hev => ?_⟩
    have := hL.uniq j' j r hj' hj; subst this
    rcases hL.sees i o ho r hr j' hj with ⟨g, _⟩ | ⟨g, g'⟩
    · rw [g] at hb; cases hb
    · unfold DLay.bef at g'
      rw [ha] at g'
      cases hj'a : L.acts j' with
      | false =>
        rw [hj'a] at g'
        simp only [List.contains_iff_mem] at g'
        rw [List.mem_take_iff_getElem] at g'
        obtain ⟨s, hs, e⟩ := g'
        have : s = t := hL.nodup s t i (by rw [List.getElem?_eq_getElem (by omega), e]) ht
        have := hev.2 hj'a
        have hj'n := DLay.dst_lt hj
        rw [hL.len] at hj'n
        omega
      | true =>
        have := hev.1 hj'a
        rw [List.mem_take_iff_getElem] at this
        obtain ⟨s, hs, e⟩ := this
        have hin := (h.done s j' (by rw [List.getElem?_eq_getElem (by omega), e])).2 (by omega)
        exact hn (h.closed.pre (hL.bits _ _ g) (h.closed _ hin))
  have hopsame : SameOn o.op.regs E M := by unfold AOper.regs at hsame; exact hsame.left
  have hpl : ∀ j x, (j, t, x) ∈ pend → inL listed j := by
    intro j x hm
    have e := (h.reck.pnd.at_ j t x hm).2.1
    have hc : L.ch[L.hi j]? = some i := by rw [← e]; exact ht
    have h2 := pfx_at hc
    simp only [Bool.not_eq_false'] at h2
    exact h.closed.pre (hL.bits _ _ h2) hp
  obtain ⟨f1, f2, f3, f4⟩ := h.flush hW hpl
  have not_new : ∀ j, inL listed j → L.acts j = false → L.lo j ≠ t + 1 := by
    intro j hj hja hlo
    obtain ⟨c, g1, g2⟩ := pfx_lt (show t < L.lo j by omega)
    rw [ht] at g1
    simp only [Option.some.injEq] at g1; subst g1
    exact hn (h.closed.pre (hL.bits _ _ g2) (h.closed _ hj))
  -- what comes behind it
  have go : ∀ v c ι' D' H' w', dstages P W0 Q base (L.stages (t + 1) m) (t + 1) (putE E o.dst v) H' (restAt t pend) → RV ι' D' v c → Rel P W0 ι' D' H' w' → Stp ι D (flushAt base t pend H) w ι' D' H' w' → next (a.put oo.dst c) w' := by
    intro v c ι' D' H' w' hd hrv hR' hs'
    cases m with
    | zero => exact hd.elim
    | succ m =>
      obtain ⟨E', pend', k1, k2, k3, k4, k5⟩ := stage_in hL hd fun hc => h.reck.next hL ht ho hc
      have hext := hs'.ext
      refine hnext m E' H' pend' _ w' ι' D' (putE M o.dst v) ⟨by simp [h.size], fun j hj p hpj => ?_, fun s c hc => ?_, k2, by rw [c2]; exact (h.env.ext hext).putE c3 hrv, fun r j hj hl => ?_, fun r hr => ?_, hR', f2.trans hs', fun j x hjx hxa => ?_, fun j x hjx hxa hl => ?_, fun j hh x hm hl => ?_, fun j1 h1 o1 j2 h2 o2 m1 m2 l1 l2 hne => ?_⟩ k1 (by omega)
      · rw [inL_set hi'] at hj ⊢
        rcases hj with rfl | hj
        · exact .inr (hp p hpj)
        · exact .inr (h.closed j hj p hpj)
      · rw [inL_set hi']
        constructor
        · rintro (rfl | hc')
          · have := hL.nodup s t c hc ht; omega
          · have := (h.done s c hc).1 hc'; omega
        · intro hs
          by_cases e : s = t
          · subst e; rw [ht] at hc; exact .inl (Option.some.inj hc).symm
          · exact .inr ((h.done s c hc).2 (by omega))
      · rw [inL_set hi'] at hl
        by_cases e : j = i
        · subst e
          rw [k5 r fun j' hj' => ?_]
          · rw [hdst] at hj; rw [hj]; simp [putE, Tr.get_set]
          · have := hL.uniq j' j r hj' hj; subst this
            rw [ha]; rintro ⟨h, _⟩; cases h
        · have hl := hl.resolve_left e
          have hne : o.dst ≠ some r := fun e' => e (hL.uniq j i r hj (by rw [hdst]; exact e'))
          rw [k5 r fun j' hj' => ?_]
          · rw [putE_get hne, putE_get hne]; exact h.m1 r j hj hl
          · have := hL.uniq j' j r hj' hj; subst this
            rintro ⟨g1, g2⟩
            exact not_new j' hl g1 g2
      · rw [putE_get fun e => hr i (by rw [hdst]; exact e) ((inL_set hi').2 (.inl rfl))]
        exact h.m2 r fun j hj hl => hr j hj ((inL_set hi').2 (.inr hl))
      · have := h.next j x hjx hxa
        have := hs'.next
        omega
      · intro hd'
        rcases hs'.newd _ hd' with g | g
        · exact h.free j x hjx hxa (fun h => hl ((inL_set hi').2 (.inr h))) g
        · have := h.next j x hjx hxa; omega
      · have hat := k2.pnd.at_ j hh x hm
        have hji : j ≠ i := fun e => by subst e; rw [ha] at hat; cases hat.2.2.2.2.1
        have hlj := ((inL_set hi').1 hl).resolve_left hji
        have hmem := (k4 j hh x hm).resolve_right fun ⟨g1, g2⟩ => not_new j hlj g2 g1
        obtain ⟨hmp, hne⟩ := mem_rest.1 hmem
        have hH := h.held j hh x hmp hlj
        have e := (hext _ hH.dom).2
        have hb := h.rel.inw _ hH.dom
        have hlive : ¬ LiveAt ι (flushAt base t pend H) (ι (base + j)).b := by
          rintro ⟨q, u, u1, u2, u3⟩
          rcases f4 q u u1 with g | ⟨j', x', hm', rfl⟩
          · exact hH.apart ⟨q, u, g, u2, u3⟩
          · have hjj : j' ≠ j := by
              intro e; subst e
              have a1 := (h.reck.pnd.at_ j' _ x' hm').2.1
              have a2 := (h.reck.pnd.at_ j' _ x hmp).2.1
              omega
            exact h.apart j' _ x' j _ x hm' hmp (hpl _ _ hm') hlj hjj u3
        refine ⟨(hext _ hH.dom).1, ?_, ?_, by rw [e]; exact hH.new⟩
        · rw [e]
          refine RObj.mono hext (fun _ => hs'.keep _ hb fun ⟨q, u, u1, u2, u3⟩ => hlive ⟨q, u, u1, ?_, u3⟩) hH.obj
          cases u <;> first | rfl | cases u2
        · rw [e]; exact fun h => hlive (hs'.live _ hb h)
      · have n1 : j1 ≠ i := fun e => by subst e; have := (k2.pnd.at_ j1 _ o1 m1).2.2.2.2.1; rw [ha] at this; cases this
        have n2 : j2 ≠ i := fun e => by subst e; have := (k2.pnd.at_ j2 _ o2 m2).2.2.2.2.1; rw [ha] at this; cases this
        have l1 := ((inL_set hi').1 l1).resolve_left n1
        have l2 := ((inL_set hi').1 l2).resolve_left n2
        have p1 := (mem_rest.1 ((k4 j1 h1 o1 m1).resolve_right fun ⟨g1, g2⟩ => not_new j1 l1 g2 g1)).1
        have p2 := (mem_rest.1 ((k4 j2 h2 o2 m2).resolve_right fun ⟨g1, g2⟩ => not_new j2 l2 g2 g1)).1
        rw [(hext _ (h.held j1 h1 o1 p1 l1).dom).2, (hext _ (h.held j2 h2 o2 p2 l2).dom).2]
        exact h.apart j1 h1 o1 j2 h2 o2 p1 p2 l1 l2 hne
  unfold Rest at hrest
  rw [ht] at hrest
  simp only [Option.bind_some, ho] at hrest
  unfold wpOpIn
  rw [hoo]
  simp only
  split at hrest
  · next hg =>
    have hwant := guard_sound h.env c4 (by rw [← guard_same hsame]; exact hg)
    rw [if_pos hwant]
    exact op_wp (N := N) c1 (aop1_same hopsame hrest) h.env f1 (fun v c ι' D' H' w' hK hv hR' hs' => go v c ι' D' H' w' hK hv hR' hs') (fun e a' w' hl => hpan e a' w' (hl.back f2))
  · next hg =>
    have hwant := guard_sound h.env c4 (by rw [← guard_same hsame]; exact hg)
    rw [if_neg (by rw [hwant]; simp)]
    refine ⟨fun _ _ => trivial, ?_⟩
    exact go (.tup []) undef ι D _ w hrest rv_undef f1 Stp.refl
  · exact hrest.elim

/-- All are listed: what holds behind the region. -/
theorem DInv.fin (hL : DOk L ops) (hW : W0.heap.size ≤ w₀.heap.size) {Q : AExit → Env → AH → Prop} {m : Nat} (h : DInv P W0 N ds L ops E0 base ι₀ D₀ H₀ w₀ k E H pend listed a w ι D M) (hrest : Rest P W0 Q L base m k H E pend) (hk : k ≤ L.ch.length) (hall : ∀ i, i < ops.size → inL listed i) :
    Lift P ds W0 N Q ι₀ D₀ H₀ w₀ .normal a w := by
  have hklen : k = L.ch.length := by
    by_cases hlt : k < L.ch.length
    · have hc : L.ch[k]? = some L.ch[k] := List.getElem?_eq_getElem hlt
      have := (h.done k _ hc).1 (hall _ (by rw [← hL.n]; exact ((hL.acts _).1 (List.mem_of_getElem? hc)).1))
      omega
    · omega
  unfold Rest at hrest
  rw [List.getElem?_eq_none (by omega)] at hrest
  simp only [Option.bind_none] at hrest
  obtain ⟨f1, f2, _, _⟩ := h.flush hW fun i o hm => hall i (by rw [← hL.n]; exact (h.reck.pnd.at_ i _ o hm).1)
  refine ⟨.normal, ι, D, E, _, hrest, rfl, ⟨h.env.size, h.env.defers, fun r v hv => h.env.regs r v ?_⟩, f1, f2⟩
  by_cases hw : ∃ j, L.dst j = some r
  · obtain ⟨j, hj⟩ := hw
    rw [h.m1 r j hj (hall j (by rw [← hL.n, ← hL.len]; exact DLay.dst_lt hj))]; exact hv
  · rw [h.m2 r fun j hj => (hw ⟨j, hj⟩).elim, ← h.reck.env r fun j hj => (hw ⟨j, hj⟩).elim]; exact hv

theorem draw_main {ro : Option Nat} (hL : DOk L ops) (hx : compOpers P N ops ops.toList = some L.xs) (hW : W0.heap.size ≤ w₀.heap.size) (hb : H₀.next ≤ base) {Q : AExit → Env → AH → Prop} : ∀ (fuel : Nat) (U : List Nat) {m k : Nat} {E : Env} {H : AH} {pend : Pend} {listed : Array Bool} {a : Act} {w : World} {ι : Inj} {D : Nat → Prop} {M : Env},
    DInv P W0 N ds L ops E0 base ι₀ D₀ H₀ w₀ k E H pend listed a w ι D M → Rest P W0 Q L base m k H E pend → k ≤ L.ch.length → (∀ i, i < ops.size → inL listed i ∨ i ∈ U) → U.length ≤ fuel →
    wpAnyIn (Fw ro) 0 P .any ops (Lift P ds W0 N Q ι₀ D₀ H₀ w₀) fuel listed a w := by
  intro fuel
  induction fuel with
  | zero =>
    intro U m k E H pend listed a w ι D M h hrest hk hU hl
    have hU0 : U = [] := List.eq_nil_of_length_eq_zero (by omega)
    subst hU0
    have hall : ∀ i, i < ops.size → inL listed i := fun i hi => (hU i hi).resolve_right (by simp)
    unfold wpAnyIn
    have hr : Region.ready .any ops listed = [] := by
      apply List.eq_nil_iff_forall_not_mem.2
      intro i hi
      have := (ready_iff h.size).1 hi
      exact this.2.1 (hall i this.1)
    exact ⟨hr, h.fin hL hW hrest hk hall⟩
  | succ fuel ih =>
    intro U m k E H pend listed a w ι D M h hrest hk hU hl
    unfold wpAnyIn
    refine ⟨fun hr => ?_, fun i hi => ?_⟩
    · exact h.fin hL hW hrest hk (all_listed h.size (fun i hi => hL.pre_lt i (by rw [hL.n]; exact hi)) hr)
    · obtain ⟨r1, r2, r3⟩ := (ready_iff h.size).1 hi
      have hi' : i < listed.size := by rw [h.size]; exact r1
      have hmem : i ∈ U := (hU i r1).resolve_left r2
      have hU' : ∀ j, j < ops.size → inL (listed.setIfInBounds i true) j ∨ j ∈ U.erase i := by
        intro j hj
        rw [inL_set hi']
        by_cases e : j = i
        · exact .inl (.inl e)
        · rcases hU j hj with g | g
          · exact .inl (.inr g)
          · exact .inr ((List.mem_erase_of_ne e).2 g)
      have hlen : (U.erase i).length ≤ fuel := by rw [List.length_erase_of_mem hmem]; omega
      cases ha : L.acts i with
      | false => exact h.item hL hx hb ha r1 r2 r3 hk fun a' w' ι' D' M' h' => ih (U.erase i) h' hrest hk hU' hlen
      | true => exact h.actor hL hx hW ha r1 r2 r3 hrest (fun m' E' H' pend' a' w' ι' D' M' h' hr' hk' => ih (U.erase i) h' hr' hk' hU' hlen) fun e a' w' hl => hl

theorem stp_bump (H : AH) (m : Nat) : Stp ι D H w ι D (H.bump m) w :=
  ⟨Ext.refl, fun _ h => .inl h, by rw [bump_next]; omega, fun _ _ _ => rfl, fun _ _ ⟨i, o, h1, h2⟩ => ⟨i, o, by rwa [bump_get] at h1, h2⟩, fun _ _ ⟨i, o, h1, h2⟩ => ⟨i, o, by rwa [bump_get] at h1, h2⟩, Nat.le_refl _, rfl, rfl, rfl⟩

theorem stp_drew {w' : World} (h1 : w'.heap = w.heap) (h2 : w'.os = w.os) (h3 : w'.tape = w.tape) (h4 : w'.output = w.output) : Stp ι D H w ι D H w' :=
  ⟨Ext.refl, fun _ h => .inl h, Nat.le_refl _, fun _ _ _ => by rw [h1], fun _ _ h => h, fun _ _ h => h, by rw [h1]; omega, h2, h3, h4⟩

/-- A REGION THAT DRAWS ITS ORDER. -/
theorem draw_sound {ro : Option Nat} {id : Nat} {m : Nat} {l : List DStage} {Q : AExit → Env → AH → Prop} {env : Env} (hP : P.follows .mixedOrders = true) (hc : compDraw P N ops = some (m, l)) (h : adraw P W0 Q m l env H) (he : REnv ds ι D N env a) (hR : Rel P W0 ι D H w) :
    (Code.region id ops true).wpIn (Fw ro) 0 P (Lift P ds W0 N Q ι D H w) a w := by
  unfold compDraw at hc
  split at hc
  · next xs hxs =>
    split at hc
    · next hok =>
      simp only [Option.some.injEq, Prod.mk.injEq] at hc
      obtain ⟨rfl, rfl⟩ := hc
      have hlen : xs.length = ops.size := by rw [compOpers_length hxs]; simp
      have hL := DOk.of hlen hok
      refine wpIn_region_any hP ?_
      have hR1 : Rel P W0 ι D H { heap := w.heap, tape := w.tape, drawn := w.drawn + 1, os := w.os, output := w.output } := hR.drew
      have hS1 : Stp ι D H w ι D H { heap := w.heap, tape := w.tape, drawn := w.drawn + 1, os := w.os, output := w.output } := stp_drew rfl rfl rfl rfl
      unfold adraw at h
      have ev0 : ∀ i, ¬ (layOf ops xs).evd 0 0 i := by
        intro i hev
        cases hai : (layOf ops xs).acts i with
        | true => have := hev.1 hai; simp at this
        | false => have := hev.2 hai; omega
      obtain ⟨E', pend', k1, k2, _, k4, k5⟩ := stage_in (E0 := env) hL h fun _ => ⟨fun _ _ => rfl, fun i _ _ _ hev => (ev0 i hev).elim, ⟨fun _ _ _ hm => by simp at hm, fun _ _ _ _ _ hm => by simp at hm⟩, fun _ _ _ hm => by simp at hm⟩
      have hnl : ∀ i, ¬ inL (Array.replicate ops.size false) i := by
        intro i hi
        unfold inL at hi
        by_cases hlt : i < ops.size <;> simp [Array.getD, hlt] at hi
      refine draw_main (m := (layOf ops xs).ch.length) (k := 0) hL hxs hR.below.size (Nat.le_refl _) ops.size (List.range ops.size) ⟨by simp, fun i hi => (hnl i hi).elim, fun t c _ => ⟨fun hi => (hnl c hi).elim, fun ht => by omega⟩, k2, he, fun t j _ hl => (hnl j hl).elim, fun t _ => rfl, rel_bump hR1 _, hS1.trans (stp_bump H _), fun i x hx hxa => ?_, fun i x hx hxa _ hd => ?_, fun i _ _ _ hl => (hnl i hl).elim, fun i _ _ _ _ _ _ _ hl _ => (hnl i hl).elim⟩ k1 (by omega) (fun i hi => .inr (List.mem_range.2 hi)) (by simp)
      · have hx : xs[i]? = some x := hx
        have hany : (xs.any fun o => isAl o.op) = true := List.any_eq_true.2 ⟨x, List.mem_of_getElem? hx, hxa⟩
        rw [hany, bump_next, if_pos rfl]
        have := (List.getElem?_eq_some_iff.1 hx).1
        omega
      · have := hR.lt _ hd; omega
    · cases hc
  · cases hc

end Ram

/- A range over a function whose iterator calls no yield; a function that leaves with marks. -/
namespace Ram
open Go
open Go.RowKit (Below Hid)

variable {P : Program}

/-- The mark of a block of deferred calls. -/
def mark (b : Nat) : Deferred := { target := .collected b, args := #[] }
/-- All these blocks shut. -/
def shut : List Nat → World → World
  | [], w => w
  | b :: r, w => shut r (w.putObj b (.deferred none))

theorem shut_other {k : Nat} : ∀ {l : List Nat} {w : World}, k ∉ l → (shut l w).heap[k]? = w.heap[k]?
  | [], _, _ => rfl
  | b :: r, w, h => by
    simp only [List.mem_cons, not_or] at h
    show (shut r (w.putObj b (.deferred none))).heap[k]? = _
    rw [shut_other h.2, World.putObj_heap_other h.1]
theorem shut_size : ∀ {l : List Nat} {w : World}, (shut l w).heap.size = w.heap.size
  | [], _ => rfl
  | b :: r, w => by show (shut r (w.putObj b (.deferred none))).heap.size = _; rw [shut_size]; simp
theorem shut_out : ∀ {l : List Nat} {w : World}, (shut l w).os = w.os ∧ (shut l w).tape = w.tape ∧ (shut l w).output = w.output
  | [], _ => ⟨rfl, rfl, rfl⟩
  | b :: r, w => shut_out (l := r) (w := w.putObj b (.deferred none))

/-- What the body of a function must achieve, where it leaves with marks alone. -/
def bodyPostK (P : Program) (fn : Func) (R : Ending → World → Prop) : Exit → Act → World → Prop
  | .normal, a, w | .ret, a, w => ∃ ms : List Nat, a.defers = ms.map mark ∧ ms.Nodup ∧ (∀ b ∈ ms, w.heap[b]? = some (.deferred (some []))) ∧ ∃ v, (results fn a.tmps).run P (shut ms w) = .ok v (shut ms w) ∧ R (.returned v) (shut ms w)
  | .panic chain, a, w => ∃ ms : List Nat, a.defers = ms.map mark ∧ ms.Nodup ∧ (∀ b ∈ ms, w.heap[b]? = some (.deferred (some []))) ∧ R (.panicked chain) (shut ms w)
  | _, _, _ => False

theorem shut_steps {fr : Frame} {cs : List Frame} (hm : fr.mode ≠ .run) : ∀ {ms : List Nat} {w : World} {ds : List Deferred}, ms.Nodup → (∀ b ∈ ms, w.heap[b]? = some (.deferred (some []))) →
    Steps P (lone { fr with defers := ms.map mark ++ ds } cs w) (lone { fr with defers := ds } cs (shut ms w))
  | [], w, ds, _, _ => .refl _ _
  | b :: r, w, ds, hn, hb => by
    have h1 := run_takeDeferred (P := P) (hb b (by simp))
    have s1 := step_collected (fr := { fr with defers := (b :: r).map mark ++ ds }) (cs := cs) (P := P) (d := mark b) (ds := r.map mark ++ ds) hm (by simp) rfl h1
    refine Steps.trans (.one s1) ?_
    have hn' := List.nodup_cons.1 hn
    exact shut_steps hm hn'.2 (fun c hc => by
      rw [World.putObj_heap_other (fun e => hn'.1 (by rw [← e]; exact hc))]
      exact hb c (by simp [hc]))

theorem calls_of_wpK {f : FuncId} {fn : Func} {c : Code} {args : Array Value} {w : World} {R : Ending → World → Prop}
    (hf : P.funcs[f]? = some fn) (hb : fn.body = some c)
    (h : c.wp P (bodyPostK P fn R) { tmps := args ++ Array.replicate (fn.ntmps - args.size) undef, defers := [] } w) :
    Calls P f args w R := by
  intro cs
  let b : Frame := { (default : Frame) with fn := f, kind := .normal }
  have henter : Frame.enter P f args .normal =
      b.at { tmps := args ++ Array.replicate (fn.ntmps - args.size) undef, defers := [] } [.code c] := by
    simp [Frame.enter, Frame.at, hf, hb, b]
  obtain ⟨e, a', w', hq, harr⟩ := h b [] cs
  rw [← henter] at harr
  have fin : ∀ (ms : List Nat) (v : Value) (todo : List Item), a'.defers = ms.map mark → ms.Nodup → (∀ b ∈ ms, w'.heap[b]? = some (.deferred (some []))) → (results fn a'.tmps).run P (shut ms w') = .ok v (shut ms w') → R (.returned v) (shut ms w') →
      Steps P (lone (Frame.enter P f args .normal) cs w) (lone { b.at a' todo with mode := .returning } cs w') →
      ∃ e w' fr, R e w' ∧ Comes P (lone (Frame.enter P f args .normal) cs w) (lone fr cs w') e ∧ fr.fn = f ∧ fr.leaving P w' e := by
    intro ms v todo hd hn hms hr hR hs
    have s2 := shut_steps (P := P) (fr := { b.at a' todo with mode := .returning }) (cs := cs) (by simp) (ds := []) hn hms
    rw [List.append_nil] at s2
    have e1 : ({ ({ b.at a' todo with mode := .returning } : Frame) with defers := ms.map mark }) = { b.at a' todo with mode := .returning } := by simp [Frame.at, hd]
    rw [e1] at s2
    exact ⟨.returned v, shut ms w', { ({ b.at a' todo with mode := .returning } : Frame) with defers := [] }, hR, Steps.trans hs s2, rfl, rfl, rfl, rfl, fn, hf, hr⟩
  cases e with
  | normal =>
    obtain ⟨ms, hd, hn, hms, v, hr, hR⟩ := hq
    exact fin ms v [] hd hn hms hr hR (Steps.trans harr (.one step_end))
  | ret =>
    obtain ⟨ms, hd, hn, hms, v, hr, hR⟩ := hq
    obtain ⟨todo, hs⟩ := harr
    exact fin ms v todo hd hn hms hr hR hs
  | panic chain =>
    obtain ⟨ms, hd, hn, hms, hR⟩ := hq
    obtain ⟨todo, hs⟩ := harr
    have s2 := shut_steps (P := P) (fr := { b.at a' todo with mode := .panicking chain }) (cs := cs) (by simp) (ds := []) hn hms
    rw [List.append_nil] at s2
    have e1 : ({ ({ b.at a' todo with mode := .panicking chain } : Frame) with defers := ms.map mark }) = { b.at a' todo with mode := .panicking chain } := by simp [Frame.at, hd]
    rw [e1] at s2
    exact ⟨.panicked chain, shut ms w', { ({ b.at a' todo with mode := .panicking chain } : Frame) with defers := [] }, hR, Steps.trans hs s2, rfl, rfl, rfl, fn, hf⟩
  | exit id => exact hq.elim
  | goto l => exact hq.elim
  | outgrown => exact hq.elim
end Ram

/- Control. -/
namespace Ram
open Go
open Go.RowKit (Below Hid)

/-- A piece of code, compiled. -/
inductive ACode where
  | skip
  | reg (ops : List AOper)
  | draw (m : Nat) (l : List DStage)
  | seq (x y : ACode)
  | cond (c : X) (x y : ACode)
  | block (id : Nat) (x : ACode)
  | loop (x : ACode)
  | rangeF (g : X) (f k : Nat)
  | exit (id : Nat)
  | ret

section
variable (P : Program) (W0 : World)

/-- What holds inside a block. -/
def inBlk (id : Nat) (Q : AExit → Env → AH → Prop) : AExit → Env → AH → Prop
  | .exit id', env, H => if id' = id then Q .normal env H else Q (.exit id') env H
  | e, env, H => Q e env H
/-- What holds behind a piece that another one follows. -/
def thenQ (K : Env → AH → Prop) (Q : AExit → Env → AH → Prop) : AExit → Env → AH → Prop
  | .normal, env, H => K env H
  | e, env, H => Q e env H

/-- What holds behind a range over a function whose iterator has returned: the jump that is left to do. -/
def ranQ (Q : AExit → Env → AH → Prop) (env : Env) (n : Nat) (H : AH) : Prop :=
  match H.get n with
  | some (.loop .busy _ _ _ _) => False
  | some (.loop _ none _ _ _) => Q .normal env (H.set n .dead)
  | some (.loop _ (some none) _ _ _) => Q .ret env (H.set n .dead)
  | some (.loop _ (some (some id)) _ _ _) => Q (.exit id) env (H.set n .dead)
  | _ => False
/-- What holds behind the iterator. -/
def ranE (Q : AExit → Env → AH → Prop) (env : Env) (n : Nat) : AEnd → AH → Prop
  | .ret _, H => ranQ Q env n H
  | .pan v, H => Q (.pan v) .leaf H

def awp : ACode → (AExit → Env → AH → Prop) → Env → AH → Prop
  | .skip, Q, env, H => Q .normal env H
  | .reg ops, Q, env, H => aops P W0 Q ops env H
  | .draw m l, Q, env, H => adraw P W0 Q m l env H
  | .seq x y, Q, env, H => awp x (thenQ (fun env H => awp y Q env H) Q) env H
  | .cond c x y, Q, env, H => match c.ev env with
    | some (.b true) => awp x Q env H
    | some (.b false) => awp y Q env H
    | _ => False
  | .block id x, Q, env, H => awp x (inBlk id Q) env H
  | .loop x, Q, env, H => ∃ (I : Nat → Env → AH → Prop) (n : Nat), I n env H ∧ ∀ n env H, I n env H → awp x (thenQ (fun env' H' => ∃ m, m < n ∧ I m env' H') Q) env H
  | .rangeF g f k, Q, env, H => match g.ev env with
    | some (.f (.func i) as bs) => ∃ env' : Env, (∀ t v, env'.get t = some v → env.get t = some v) ∧ ACalls P W0 i (as ++ [.f (.yield H.next) [] []] ++ bs) (H.alloc (.loop .ready none f k env')) (ranE Q env H.next)
    | _ => False
  | .exit id, Q, env, H => Q (.exit id) env H
  | .ret, Q, env, H => Q .ret env H
end

/-- Code, compiled; f: the function whose code it is; k: how many loops over functions lie ahead of it; top: is it no round's body. -/
def compCode (P : Program) (N : Nat) (top : Bool) (f : Nat) : Nat → Code → Option ACode
  | _, .skip => some .skip
  | _, .region _ ops false => match compOpers P N ops ops.toList with
    | some l => some (.reg l)
    | none => none
  | _, .region _ ops true => if P.follows .mixedOrders then (match compDraw P N ops with
    | some (m, l) => some (.draw m l)
    | none => none) else none
  | k, .seq x y => match compCode P N top f k x, compCode P N top f (k + (loopsIn x).length) y with
    | some x, some y => some (.seq x y)
    | _, _ => none
  | k, .cond c x y => match cX c, compCode P N top f k x, compCode P N top f (k + (loopsIn x).length) y with
    | some c, some x, some y => some (.cond c x y)
    | _, _, _ => none
  | k, .block id x => match compCode P N top f k x with
    | some x => some (.block id x)
    | none => none
  | k, .loop x => match compCode P N top f k x with
    | some x => some (.loop x)
    | none => none
  | k, .rangeFunc g _ _ _ => if top then (match cX g with
    | some g => some (.rangeF g f k)
    | none => none) else none
  | _, .exit id => some (.exit id)
  | _, .ret => some .ret
  | k, .scope x => compCode P N top f k x
  | _, .label _ => some .skip
  | _, _ => none

/-- The loops over functions in this code are the function's from the k-th one on. -/
def Sites (P : Program) (N f k : Nat) (c : Code) : Prop := ∀ j s, (loopsIn c)[j]? = some s → siteAt P f (k + j) = some (N, s)

variable {P : Program} {W0 : World} {ι ι' : Inj} {D D' : Nat → Prop} {N : Nat} {ds : List Deferred} {env : Env} {a : Act} {w w' : World} {H : AH}

theorem Lift.mono {Q Q' : AExit → Env → AH → Prop} (hq : ∀ e env H, Q e env H → Q' e env H) {e : Exit} {a' : Act} {w' : World} (h : Lift P ds W0 N Q ι D H w e a' w') : Lift P ds W0 N Q' ι D H w e a' w' := by
  obtain ⟨ae, ι', D', env', H', h1, h2⟩ := h
  exact ⟨ae, ι', D', env', H', hq _ _ _ h1, h2⟩

/-- Marks come in front: of blocks that are new, that nobody owns, and where no call waits. -/
def Mk (ds ds' : List Deferred) (n : Nat) (ι' : Inj) (H' : AH) (w' : World) : Prop :=
  ∃ ms : List Nat, ds' = ms.map mark ++ ds ∧ ms.Nodup ∧ ∀ b ∈ ms, n ≤ b ∧ b < w'.heap.size ∧ w'.heap[b]? = some (.deferred (some [])) ∧ ¬ Owned ι' H' b
theorem Mk.refl {ds : List Deferred} {n : Nat} {ι : Inj} {H : AH} {w : World} : Mk ds ds n ι H w := ⟨[], rfl, .nil, fun b hb => by cases hb⟩
theorem Mk.trans {ds ds₁ ds₂ : List Deferred} {n : Nat} {ι₁ ι₂ : Inj} {D₁ D₂ : Nat → Prop} {H₁ H₂ : AH} {w₁ w₂ : World} (h : Mk ds ds₁ n ι₁ H₁ w₁) (hs : Stp ι₁ D₁ H₁ w₁ ι₂ D₂ H₂ w₂) (k : Mk ds₁ ds₂ w₁.heap.size ι₂ H₂ w₂) (hn : n ≤ w₁.heap.size) : Mk ds ds₂ n ι₂ H₂ w₂ := by
  obtain ⟨ms, rfl, h2, h3⟩ := h
  obtain ⟨ks, rfl, k2, k3⟩ := k
  refine ⟨ks ++ ms, by simp, List.nodup_append.2 ⟨k2, h2, fun a ha b hb e => ?_⟩, fun b hb => ?_⟩
  · have := (k3 a ha).1; have := (h3 b hb).2.1; omega
  · rcases List.mem_append.1 hb with hb | hb
    · obtain ⟨g1, g2, g3, g4⟩ := k3 b hb
      exact ⟨by omega, g2, g3, g4⟩
    · obtain ⟨g1, g2, g3, g4⟩ := h3 b hb
      exact ⟨g1, Nat.lt_of_lt_of_le g2 hs.size, (hs.keep b g2 g4).trans g3, fun ho => g4 (hs.own b g2 ho)⟩
/-- What holds behind a piece of code, marks and all. -/
def LiftM (P : Program) (ds : List Deferred) (W0 : World) (N : Nat) (Q : AExit → Env → AH → Prop) (ι : Inj) (D : Nat → Prop) (H : AH) (w : World) : Exit → Act → World → Prop := fun e a' w' =>
  ∃ ae ι' D' env' H' ds', Q ae env' H' ∧ RExit ι' D' ae e ∧ REnv ds' ι' D' N env' a' ∧ Rel P W0 ι' D' H' w' ∧ Stp ι D H w ι' D' H' w' ∧ Mk ds ds' w.heap.size ι' H' w'
theorem Lift.toM {Q : AExit → Env → AH → Prop} {e : Exit} {a' : Act} {w' : World} (h : Lift P ds W0 N Q ι D H w e a' w') : LiftM P ds W0 N Q ι D H w e a' w' := by
  obtain ⟨ae, ι', D', env', H', g1, g2, g3, g4, g5⟩ := h
  exact ⟨ae, ι', D', env', H', ds, g1, g2, g3, g4, g5, Mk.refl⟩
theorem LiftM.back {Q : AExit → Env → AH → Prop} {ds₁ ds₂ : List Deferred} {ι₁ ι₂ : Inj} {D₁ D₂ : Nat → Prop} {H₁ H₂ : AH} {w₁ w₂ : World} (hs : Stp ι₁ D₁ H₁ w₁ ι₂ D₂ H₂ w₂) (hm : Mk ds₁ ds₂ w₁.heap.size ι₂ H₂ w₂) {e : Exit} {a' : Act} {w' : World} (h : LiftM P ds₂ W0 N Q ι₂ D₂ H₂ w₂ e a' w') : LiftM P ds₁ W0 N Q ι₁ D₁ H₁ w₁ e a' w' := by
  obtain ⟨ae, ι', D', env', H', ds', g1, g2, g3, g4, g5, g6⟩ := h
  exact ⟨ae, ι', D', env', H', ds', g1, g2, g3, g4, hs.trans g5, hm.trans g5 g6 hs.size⟩

theorem wpIn_scope_straight {F : Fence} {n : Nat} {Q : Exit → Act → World → Prop} {c : Code} (h : c.wpIn F n P (Exit.noGoto Q) a w) : (Code.scope c).wpIn F n P Q a w := by
  intro b k cs hro hb hr
  have s1 : StepsIn (Machine.fenced P F) P (lone (b.atR a (.code (.scope c) :: k)) cs w) (lone (b.atR a (.code c :: .inScope c :: k)) cs w) :=
    .one (fenced_calm hb hr rfl) (step_lone_go (by simp [stepG, stepG.exec, Frame.atR]))
  have s2 : ∀ a w, StepsIn (Machine.fenced P F) P (lone (b.atR a (.inScope c :: k)) cs w) (lone (b.atR a k) cs w) := fun a w =>
    .one (fenced_calm hb hr rfl) (step_lone_go (by simp [stepG, stepG.exec, Frame.atR]))
  obtain ⟨e, a₁, w₁, hq, harr⟩ := h b (.inScope c :: k) cs hro hb hr
  cases e with
  | normal => exact ⟨.normal, a₁, w₁, hq, StepsIn.trans s1 (StepsIn.trans harr (s2 _ _))⟩
  | exit id => exact ⟨.exit id, a₁, w₁, hq, fun k' hk => StepsIn.trans s1 (harr.1 k' (by simp [exitTo, hk])), fun hr hk => let ⟨k₁, g1, g2⟩ := harr.2 hr (by simp [exitTo, hk]); ⟨k₁, g1, StepsIn.trans s1 g2⟩⟩
  | goto l => exact hq.elim
  | ret => exact ⟨_, a₁, w₁, hq, .of_steps s1 harr⟩
  | panic ch => exact ⟨_, a₁, w₁, hq, .of_steps s1 harr⟩
  | outgrown => exact ⟨_, a₁, w₁, hq, .of_steps s1 harr⟩

theorem rangeF_sound {g : Operand} {ps : Array Tmp} {assign body : Code} {g' : X} {f k : Nat} {Q : AExit → Env → AH → Prop} (hg : cX g = some g') (hsite : siteAt P f k = some (N, ps, assign, body)) (h : awp P W0 (.rangeF g' f k) Q env H) (he : REnv ds ι D N env a) (hR : Rel P W0 ι D H w) :
    (Code.rangeFunc g ps assign body).wpIn (Fw none) 0 P (LiftM P ds W0 N Q ι D H w) a w := by
  simp only [awp] at h
  split at h
  rotate_left
  · exact h.elim
  next i as bs hgv =>
  obtain ⟨env', hsub, h⟩ := h
  obtain ⟨cs, us, e, r1, r2⟩ := (cX_sound hg hgv he).f_inv
  refine wpIn_rangeFunc fun fn _ => ?_
  let w₀ := w.alloc (.deferred (some []))
  let rec₀ : Loop := { state := .ready, pending := none, fn, tmps := a.tmps, params := ps, assign, body, defers := w.heap.size }
  let w₁ := w₀.alloc (.loop rec₀)
  have hsz₀ : w₀.heap.size = w.heap.size + 1 := by simp [w₀]
  have hold : ∀ b, b < w.heap.size → w₀.heap[b]? = w.heap[b]? := fun b hb => Below.heap_alloc w _ b hb
  have hso : SameOut w w₀ := ⟨rfl, rfl, rfl, by omega⟩
  have hR₀ : Rel P W0 ι D H w₀ := ⟨fun i o ho => RObj.mono Ext.refl (fun hl => hold _ (hR.inw i (hR.dom i o ho hl))) (hR.objs i o ho), hR.dom, hR.lt, hR.get_lt, hR.apart, hR.new, fun i hi => by have := hR.inw i hi; omega,
    below_step hR hso fun b hb => hold b (Nat.lt_of_lt_of_le hb hR.below.size)⟩
  have hs₀ : Stp ι D H w ι D H w₀ := ⟨Ext.refl, fun _ h => .inl h, Nat.le_refl _, fun b hb _ => hold b hb, fun _ _ h => h, fun _ _ h => h, hso.size, rfl, rfl, rfl⟩
  have hfr := hR.fresh
  have hext := ext_upd (ι := ι) (p := ⟨w₀.heap.size, 0, 0⟩) hfr
  obtain ⟨hR₁, hs₁⟩ := rel_alloc (o := .loop .ready none f k env') (O := .loop rec₀) (n := 0) (w' := w₁) hR₀ ⟨rfl, rfl, rfl, by simp [w₁]⟩ rfl
    ⟨rfl, rec₀, N, World.alloc_heap_new w₀ _, hsite, rfl, rfl, he.size, fun t v hv => let ⟨c, c1, c2⟩ := he.regs t v (hsub t v hv); ⟨c, c1, c2.ext hext⟩⟩
  have hup : updI ι H.next ⟨w₀.heap.size, 0, 0⟩ H.next = ⟨w₀.heap.size, 0, 0⟩ := by unfold updI; rw [if_pos rfl]
  have hy : RV (updI ι H.next ⟨w₀.heap.size, 0, 0⟩) (addD D H.next) (.f (.yield H.next) [] []) (.func (.yield (w.heap.size + 1)) #[] #[]) := by
    have := RV.y (ι := updI ι H.next ⟨w₀.heap.size, 0, 0⟩) (D := addD D H.next) H.next (.inr rfl)
    rw [hup] at this
    simpa [hsz₀] using this
  have hD₀ : w₀.heap[w.heap.size]? = some (.deferred (some [])) := World.alloc_heap_new w _
  have hD : w₁.heap[w.heap.size]? = some (.deferred (some [])) := by
    show (w₀.alloc _).heap[w.heap.size]? = _
    rw [Below.heap_alloc w₀ _ _ (by omega)]; exact hD₀
  have hsz : w₁.heap.size = w.heap.size + 2 := by simp [w₁, w₀]
  have hno : ¬ Owned ι H w.heap.size := fun ⟨i, o, h1, h2, h3⟩ => by
    have := hR.inw i (hR.dom i o h1 (by cases o <;> first | rfl | cases h2))
    omega
  have hno₁ : ¬ Owned (updI ι H.next ⟨w₀.heap.size, 0, 0⟩) (H.alloc (.loop .ready none f k env')) w.heap.size := fun ho => hno (hs₁.own _ (by omega) ho)
  have hc := h.2 _ _ w₁ (cs ++ [.func (.yield (w.heap.size + 1)) #[] #[]] ++ us) (((r1.ext hext).append (.cons _ _ _ _ hy .nil)).append (r2.ext hext)) hR₁
  refine ⟨w.heap.size + 1, [mark w.heap.size], w₁, { target := .fn (.func i) us.toArray, args := cs.toArray ++ #[.func (.yield (w.heap.size + 1)) #[] #[]] }, w₁, i, _, w₁, ?_, ?_, fun _ _ => trivial, ?_, fun h => (by cases h), fw_calls (hc.mono ?_)⟩
  · show (Instr.enterLoop fn a.tmps ps assign body none).run P w = _
    rw [run_enterLoop_outer]
    rfl
  · simp only [resolve, e, Deferred.ofValue, Sem.run_pure, map1]
    rfl
  · simp only [invoke]
    rw [run_call h.1]
    congr 2
    apply Array.ext'; simp
  · rintro e w₃ ⟨ae, ι', D', H', hQ, hE, hR', hs'⟩
    have hD₃ : w₃.heap[w.heap.size]? = some (.deferred (some [])) := (hs'.keep _ (by omega) hno₁).trans hD
    have hno₃ : ¬ Owned ι' H' w.heap.size := fun ho => hno₁ (hs'.own _ (by omega) ho)
    have hsz₃ := hs'.size
    have he₃ := (he.ext hext).ext hs'.ext
    have hst : Stp ι D H w ι' D' H' w₃ := (hs₀.trans hs₁).trans hs'
    cases ae with
    | pan v =>
      obtain ⟨c, rfl, hv⟩ := hE
      exact ⟨.pan v, ι', D', .leaf, H', [mark w.heap.size] ++ ds, hQ, ⟨c, rfl, hv⟩, ⟨he₃.size, by rw [← he₃.defers], fun t v hv => by cases hv⟩, hR', hst,
        ⟨[w.heap.size], rfl, by simp, fun b hb => by simp only [List.mem_singleton] at hb; subst hb; exact ⟨Nat.le_refl _, by omega, hD₃, hno₃⟩⟩⟩
    | ret v =>
      obtain ⟨c, rfl, hv⟩ := hE
      have fin : ∀ st pend f' k' env'', H'.get H.next = some (.loop st pend f' k' env'') → st ≠ .busy → Q (match pend with | none => .normal | some none => .ret | some (some id) => .exit id) env (H'.set H.next .dead) →
          rangePost (Fw none) 0 P (w.heap.size + 1) (LiftM P ds W0 N Q ι D H w) { a with defers := [mark w.heap.size] ++ a.defers } (.returned c) w₃ := by
        intro st pend f' k' env'' hgl hst0 hQ
        have hdn : addD D H.next H.next := .inr rfl
        have hin : ι' H.next = ⟨w₀.heap.size, 0, 0⟩ := ((hs'.ext _ hdn).2).trans hup
        obtain ⟨_, r, n, q1, q2, q3, q4, q5⟩ := hR'.objs _ _ hgl
        rw [hin] at q1
        have q1 : w₃.heap[w.heap.size + 1]? = some (.loop r) := by rw [← hsz₀]; exact q1
        have hend := run_endLoop (P := P) q1 (by rw [q3]; exact hst0)
        have hkeep : ∀ b, b ≠ w.heap.size + 1 → (w₃.putObj (w.heap.size + 1) (.loop { r with state := .exhausted })).heap[b]? = w₃.heap[b]? := fun b hb => World.putObj_heap_other hb
        have hso₃ : SameOut w₃ (w₃.putObj (w.heap.size + 1) (.loop { r with state := .exhausted })) := ⟨rfl, rfl, rfl, by simp⟩
        have hk₃ : ∀ b, b ≠ (ι' H.next).b → (w₃.putObj (w.heap.size + 1) (.loop { r with state := .exhausted })).heap[b]? = w₃.heap[b]? := fun b hb => hkeep b (by rw [hin] at hb; simpa [hsz₀] using hb)
        have hR₄ := rel_set (o' := .dead) hR' hgl rfl (by simp [AO.live]) hso₃ hk₃ trivial
        have hs₄ := stp_set (ι := ι') (D := D') (o' := .dead) hgl rfl hso₃ hk₃
        have hm : Mk ds ([mark w.heap.size] ++ ds) w.heap.size ι' (H'.set H.next .dead) (w₃.putObj (w.heap.size + 1) (.loop { r with state := .exhausted })) :=
          ⟨[w.heap.size], rfl, by simp, fun b hb => by
            simp only [List.mem_singleton] at hb; subst hb
            exact ⟨Nat.le_refl _, by simp; omega, (hkeep _ (by omega)).trans hD₃, fun ho => hno₃ (hs₄.own _ (by omega) ho)⟩⟩
        have hLift : ∀ ae ee, RExit ι' D' ae ee → Q ae env (H'.set H.next .dead) → LiftM P ds W0 N Q ι D H w ee { a with defers := [mark w.heap.size] ++ a.defers } (w₃.putObj (w.heap.size + 1) (.loop { r with state := .exhausted })) := fun ae ee hee hq =>
          ⟨ae, ι', D', env, _, [mark w.heap.size] ++ ds, hq, hee, ⟨he₃.size, by rw [← he₃.defers], he₃.regs⟩, hR₄, hst.trans hs₄, hm⟩
        refine ⟨pend.map jumpOf, _, hend.trans (congrArg (fun p => Result.ok p _) q4), ?_⟩
        cases pend with
        | none => exact hLift .normal .normal rfl hQ
        | some j =>
          cases j with
          | none => exact wpIn_ret (hLift .ret .ret rfl hQ)
          | some id => exact wpIn_exit (hLift (.exit id) (.exit id) rfl hQ)
      simp only [ranE, ranQ] at hQ
      split at hQ
      · exact hQ.elim
      · next hgl => exact fin _ _ _ _ _ hgl (by assumption) hQ
      · next hgl => exact fin _ _ _ _ _ hgl (by assumption) hQ
      · next hgl => exact fin _ _ _ _ _ hgl (by assumption) hQ
      · exact hQ.elim

theorem sites_left {f k : Nat} {x y : Code} (h : ∀ j s, (loopsIn x ++ loopsIn y)[j]? = some s → siteAt P f (k + j) = some (N, s)) : Sites P N f k x :=
  fun j s hj => h j s (by rw [List.getElem?_append_left (List.getElem?_eq_some_iff.1 hj).1]; exact hj)
theorem sites_right {f k : Nat} {x y : Code} (h : ∀ j s, (loopsIn x ++ loopsIn y)[j]? = some s → siteAt P f (k + j) = some (N, s)) : Sites P N f (k + (loopsIn x).length) y :=
  fun j s hj => by
    have := h ((loopsIn x).length + j) s (by rw [List.getElem?_append_right (by omega), Nat.add_sub_cancel_left]; exact hj)
    rw [← this]; congr 1; omega

/-- THE RULES ARE TRUE OF THE MODEL. -/
theorem awp_sound {ro : Option Nat} {top : Bool} {fi : Nat} (hro : top = true → ro = none) : ∀ {c : Code} {kk : Nat} {x : ACode} {ds : List Deferred} {Q : AExit → Env → AH → Prop} {ι : Inj} {D : Nat → Prop} {env : Env} {a : Act} {H : AH} {w : World}, compCode P N top fi kk c = some x → (top = true → Sites P N fi kk c) → awp P W0 x Q env H → REnv ds ι D N env a → Rel P W0 ι D H w →
    c.wpIn (Fw ro) 0 P (LiftM P ds W0 N Q ι D H w) a w := by
  intro c
  induction c with
  | skip =>
    intro kk x ds Q ι D env a H w hc hsi h he hR
    simp only [compCode, Option.some.injEq] at hc; subst hc
    exact wpIn_skip ⟨.normal, ι, D, env, H, ds, h, rfl, he, hR, Stp.refl, Mk.refl⟩
  | region id ops draw =>
    intro kk x ds Q ι D env a H w hc hsi h he hR
    cases draw with
    | false =>
      simp only [compCode] at hc
      split at hc
      · next l hl =>
        simp only [Option.some.injEq] at hc; subst hc
        exact Code.wpIn_mono (fun e a' w' hl => hl.toM) (wpIn_region_list (aops_sound hl h he hR Stp.refl))
      · cases hc
    | true =>
      simp only [compCode] at hc
      split at hc
      · next hP =>
        split at hc
        · next m l hl =>
          simp only [Option.some.injEq] at hc; subst hc
          exact Code.wpIn_mono (fun e a' w' hl => hl.toM) (draw_sound hP hl h he hR)
        · cases hc
      · cases hc
  | seq c₁ c₂ ih₁ ih₂ =>
    intro kk x ds Q ι D env a H w hc hsi h he hR
    simp only [compCode] at hc
    split at hc
    · next x₁ x₂ h1 h2 =>
      simp only [Option.some.injEq] at hc; subst hc
      refine wpIn_seq (Code.wpIn_mono (fun e a' w' hl => ?_) (ih₁ h1 (fun ht => sites_left (hsi ht)) h he hR))
      obtain ⟨ae, ι', D', env', H', ds', g1, g2, g3, g4, g5, g6⟩ := hl
      cases ae with
      | normal =>
        subst g2
        exact Code.wpIn_mono (fun e a w hl => hl.back g5 g6) (ih₂ h2 (fun ht => sites_right (hsi ht)) g1 g3 g4)
      | exit id => subst g2; exact ⟨.exit id, ι', D', env', H', ds', g1, rfl, g3, g4, g5, g6⟩
      | ret => subst g2; exact ⟨.ret, ι', D', env', H', ds', g1, rfl, g3, g4, g5, g6⟩
      | pan v => obtain ⟨c, rfl, r⟩ := g2; exact ⟨.pan v, ι', D', env', H', ds', g1, ⟨c, rfl, r⟩, g3, g4, g5, g6⟩
    · cases hc
  | cond c c₁ c₂ ih₁ ih₂ =>
    intro kk x ds Q ι D env a H w hc hsi h he hR
    simp only [compCode] at hc
    split at hc
    · next c' x₁ x₂ h0 h1 h2 =>
      simp only [Option.some.injEq] at hc; subst hc
      simp only [awp] at h
      split at h
      · next hb => exact wpIn_cond_true (cX_sound h0 hb he).bool_inv (ih₁ h1 (fun ht => sites_left (hsi ht)) h he hR)
      · next hb => exact wpIn_cond_false (cX_sound h0 hb he).bool_inv (ih₂ h2 (fun ht => sites_right (hsi ht)) h he hR)
      · exact h.elim
    · cases hc
  | block id c₁ ih =>
    intro kk x ds Q ι D env a H w hc hsi h he hR
    simp only [compCode] at hc
    split at hc
    · next x₁ h1 =>
      simp only [Option.some.injEq] at hc; subst hc
      refine wpIn_block (Code.wpIn_mono (fun e a' w' hl => ?_) (ih h1 hsi h he hR))
      obtain ⟨ae, ι', D', env', H', ds', g1, g2, g3, g4, g5, g6⟩ := hl
      cases ae with
      | normal => subst g2; exact ⟨.normal, ι', D', env', H', ds', g1, rfl, g3, g4, g5, g6⟩
      | exit id' =>
        subst g2
        simp only [inBlk] at g1
        simp only [Exit.inBlock]
        split at g1
        · next hid => rw [if_pos hid]; exact ⟨.normal, ι', D', env', H', ds', g1, rfl, g3, g4, g5, g6⟩
        · next hid => rw [if_neg hid]; exact ⟨.exit id', ι', D', env', H', ds', g1, rfl, g3, g4, g5, g6⟩
      | ret => subst g2; exact ⟨.ret, ι', D', env', H', ds', g1, rfl, g3, g4, g5, g6⟩
      | pan v => obtain ⟨c, rfl, r⟩ := g2; exact ⟨.pan v, ι', D', env', H', ds', g1, ⟨c, rfl, r⟩, g3, g4, g5, g6⟩
    · cases hc
  | loop c₁ ih =>
    intro kk x ds Q ι D env a H w hc hsi h he hR
    simp only [compCode] at hc
    split at hc
    · next x₁ h1 =>
      simp only [Option.some.injEq] at hc; subst hc
      obtain ⟨I, n, hI, hround⟩ := h
      intro b k cs hrb hb hr
      have key : ∀ n ι₁ D₁ env₁ a₁ H₁ w₁ ds₁, I n env₁ H₁ → REnv ds₁ ι₁ D₁ N env₁ a₁ → Rel P W0 ι₁ D₁ H₁ w₁ → Stp ι D H w ι₁ D₁ H₁ w₁ → Mk ds ds₁ w.heap.size ι₁ H₁ w₁ →
          ∃ e a' w', LiftM P ds W0 N Q ι D H w e a' w' ∧ ArrivesIn (Machine.fenced P (Fw ro)) P (lone (b.atR a₁ (.code c₁ :: .inLoop c₁ :: k)) cs w₁) b k cs e a' w' := by
        intro n
        induction n using Nat.strongRecOn with
        | _ n ihn =>
          intro ι₁ D₁ env₁ a₁ H₁ w₁ ds₁ hI₁ he₁ hR₁ hs₁ hm₁
          obtain ⟨e, a₂, w₂, hl, harr⟩ := ih h1 hsi (hround n env₁ H₁ hI₁) he₁ hR₁ b (.inLoop c₁ :: k) cs hrb hb hr
          obtain ⟨ae, ι', D', env', H', ds', g1, g2, g3, g4, g5, g6⟩ := hl
          cases ae with
          | normal =>
            subst g2
            obtain ⟨m, hm, hIm⟩ := g1
            obtain ⟨e₂, a₃, w₃, hq₂, harr₂⟩ := ihn m hm ι' D' env' a₂ H' w₂ ds' hIm g3 g4 (hs₁.trans g5) (hm₁.trans g5 g6 hs₁.size)
            exact ⟨e₂, a₃, w₃, hq₂, .of_steps (StepsIn.trans harr (.one (fenced_calm hb hr rfl) stepR_inLoop)) harr₂⟩
          | exit id => subst g2; exact ⟨.exit id, a₂, w₂, ⟨.exit id, ι', D', env', H', ds', g1, rfl, g3, g4, hs₁.trans g5, hm₁.trans g5 g6 hs₁.size⟩, .pass (x := .inLoop c₁) rfl (fun _ _ => .inl (by simp)) harr⟩
          | ret => subst g2; exact ⟨.ret, a₂, w₂, ⟨.ret, ι', D', env', H', ds', g1, rfl, g3, g4, hs₁.trans g5, hm₁.trans g5 g6 hs₁.size⟩, .pass (x := .inLoop c₁) rfl (fun _ _ => .inl (by simp)) harr⟩
          | pan v => obtain ⟨c, rfl, r⟩ := g2; exact ⟨_, a₂, w₂, ⟨.pan v, ι', D', env', H', ds', g1, ⟨c, rfl, r⟩, g3, g4, hs₁.trans g5, hm₁.trans g5 g6 hs₁.size⟩, .pass (x := .inLoop c₁) rfl (fun _ _ => .inl (by simp)) harr⟩
      obtain ⟨e, a', w', hq, harr⟩ := key n ι D env a H w ds hI he hR Stp.refl Mk.refl
      exact ⟨e, a', w', hq, .of_steps (.one (fenced_calm hb hr rfl) stepR_loop) harr⟩
    · cases hc
  | exit id =>
    intro kk x ds Q ι D env a H w hc hsi h he hR
    simp only [compCode, Option.some.injEq] at hc; subst hc
    exact wpIn_exit ⟨.exit id, ι, D, env, H, ds, h, rfl, he, hR, Stp.refl, Mk.refl⟩
  | ret =>
    intro kk x ds Q ι D env a H w hc hsi h he hR
    simp only [compCode, Option.some.injEq] at hc; subst hc
    exact wpIn_ret ⟨.ret, ι, D, env, H, ds, h, rfl, he, hR, Stp.refl, Mk.refl⟩
  | scope c₁ ih =>
    intro kk x ds Q ι D env a H w hc hsi h he hR
    simp only [compCode] at hc
    refine wpIn_scope_straight (Code.wpIn_mono (fun e a' w' hl => ?_) (ih hc hsi h he hR))
    obtain ⟨ae, ι', D', env', H', ds', g1, g2, g3, g4, g5, g6⟩ := hl
    cases ae with
    | normal => subst g2; exact ⟨.normal, ι', D', env', H', ds', g1, rfl, g3, g4, g5, g6⟩
    | exit id => subst g2; exact ⟨.exit id, ι', D', env', H', ds', g1, rfl, g3, g4, g5, g6⟩
    | ret => subst g2; exact ⟨.ret, ι', D', env', H', ds', g1, rfl, g3, g4, g5, g6⟩
    | pan v => obtain ⟨c, rfl, r⟩ := g2; exact ⟨.pan v, ι', D', env', H', ds', g1, ⟨c, rfl, r⟩, g3, g4, g5, g6⟩
  | label l =>
    intro kk x ds Q ι D env a H w hc hsi h he hR
    simp only [compCode, Option.some.injEq] at hc; subst hc
    exact wpIn_label ⟨.normal, ι, D, env, H, ds, h, rfl, he, hR, Stp.refl, Mk.refl⟩
  | rangeFunc g ps c₁ c₂ _ _ =>
    intro kk x ds Q ι D env a H w hc hsi h he hR
    simp only [compCode] at hc
    split at hc
    · next htop =>
      have hro' := hro htop; subst hro'
      split at hc
      · next g' hg => simp only [Option.some.injEq] at hc; subst hc; exact rangeF_sound hg (by have := hsi htop 0 (ps, c₁, c₂) rfl; simpa using this) h he hR
      · cases hc
    · cases hc
  | _ => intro kk x ds Q ι D env a H w hc; cases hc

end Ram

/- A function's contract out of its body. -/
namespace Ram
open Go
open Go.RowKit (Below Hid)

inductive ARes where
  | t (n : Nat)
  | c (agg : Bool) (n : Nat) (t : Nat)

def compRes (P : Program) : List ResultVar → Option (List ARes)
  | [] => some []
  | .tmp t :: r => match compRes P r with
    | some l => some (.t t :: l)
    | none => none
  | .cell a t :: r => match isAggT P t, sizeT P t, compRes P r with
    | some ag, some n, some l => some (.c ag n a :: l)
    | _, _, _ => none

def readRes (env : Env) (H : AH) : ARes → Option V
  | .t n => env.get n
  | .c ag n t => if ag then aread (.ldN n (.t t)) env H else aread (.ld1 (.t t)) env H
def readAll (env : Env) (H : AH) : List ARes → Option (List V)
  | [] => some []
  | r :: l => match readRes env H r, readAll env H l with
    | some v, some vs => some (v :: vs)
    | _, _ => none
def packRes : List V → V
  | [v] => v
  | vs => .tup vs

def bodyQ (rs : List ARes) (R : AEnd → AH → Prop) : AExit → Env → AH → Prop
  | .normal, env, H | .ret, env, H => match readAll env H rs with
    | some vs => R (.ret (packRes vs)) H
    | none => False
  | .pan v, _, H => R (.pan v) H
  | .exit _, _, _ => False

def initEnv : Nat → List V → Env → Env
  | _, [], e => e
  | i, v :: r, e => initEnv (i + 1) r (e.set i v)

/-- A function, compiled. -/
structure AFn where
  n : Nat
  code : ACode
  res : List ARes

def compFn (P : Program) (f : FuncId) : Option AFn :=
  match P.funcs[f]? with
  | some fn => if fn.name == "runtime.NumGoroutine" then none else
    match fn.body with
    | some c => match compCode P fn.ntmps true f 0 c, compRes P fn.results.toList with
      | some x, some rs => some ⟨fn.ntmps, x, rs⟩
      | _, _ => none
    | none => none
  | none => none

variable {P : Program} {W0 : World} {ι ι' : Inj} {D D' : Nat → Prop} {N : Nat} {ds : List Deferred} {env : Env} {a : Act} {w w' : World} {H : AH}

theorem initEnv_get : ∀ (vs : List V) (i : Nat) (e : Env) (t : Nat), (initEnv i vs e).get t = if i ≤ t ∧ t < i + vs.length then vs[t - i]? else e.get t
  | [], i, e, t => by
    simp only [initEnv, List.length_nil]
    rw [if_neg (by omega)]
  | v :: vs, i, e, t => by
    simp only [initEnv, List.length_cons]
    rw [initEnv_get vs (i + 1), Tr.get_set]
    by_cases h1 : t = i
    · subst h1
      rw [if_neg (by omega), if_pos rfl, if_pos (by omega)]
      simp
    · by_cases h2 : i + 1 ≤ t ∧ t < i + 1 + vs.length
      · rw [if_pos h2, if_pos (by omega)]
        obtain ⟨k, rfl⟩ : ∃ k, t = i + 1 + k := ⟨t - (i + 1), by omega⟩
        rw [show i + 1 + k - (i + 1) = k by omega, show i + 1 + k - i = k + 1 by omega]
        simp
      · rw [if_neg h2, if_neg h1, if_neg (by omega)]

def rvRun (a : Act) : ResultVar → Sem Value
  | .tmp t => pure (a.tmps.getD t undef)
  | .cell q t => do loadVar t (← asAddr (a.tmps.getD q undef))

theorem res_run (he : REnv ds ι D N env a) (hR : Rel P W0 ι D H w) : ∀ {l : List ResultVar} {rs : List ARes} {vs : List V}, compRes P l = some rs → readAll env H rs = some vs →
    ∃ cs : List Value, (l.mapM (rvRun a)).run P w = .ok cs w ∧ RVs ι D vs cs
  | [], rs, vs, hc, h => by
    simp only [compRes, Option.some.injEq] at hc; subst hc
    simp only [readAll, Option.some.injEq] at h; subst h
    exact ⟨[], by simp, .nil⟩
  | .tmp t :: l, rs, vs, hc, h => by
    simp only [compRes] at hc
    split at hc
    · next m hm =>
      simp only [Option.some.injEq] at hc; subst hc
      simp only [readAll, readRes] at h
      split at h
      · next v vs' hv hvs =>
        simp only [Option.some.injEq] at h; subst h
        obtain ⟨cs, h1, h2⟩ := res_run he hR hm hvs
        obtain ⟨c, c1, c2⟩ := he.regs _ _ hv
        refine ⟨c :: cs, ?_, .cons _ _ _ _ c2 h2⟩
        have hg : a.tmps.getD t undef = c := by simp [Array.getD_eq_getD_getElem?, c1]
        simp only [List.mapM_cons, rvRun, Sem.run_bind, Sem.run_pure, Result.andThen_ok, hg, h1]
      · cases h
    · cases hc
  | .cell q t :: l, rs, vs, hc, h => by
    simp only [compRes] at hc
    split at hc
    · next ag n m ha hs hm =>
      simp only [Option.some.injEq] at hc; subst hc
      simp only [readAll] at h
      split at h
      · next v vs' hv hvs =>
        simp only [Option.some.injEq] at h; subst h
        obtain ⟨cs, h1, h2⟩ := res_run he hR hm hvs
        have hx : cX (.tmp q) = some (.t q) := rfl
        have hload : Yld P ι D (Instr.loadAt t (a.eval (.tmp q))) w v := by
          simp only [readRes] at hv
          cases ag with
          | true => exact yld_ldN hR ha hs hx (by simpa using hv) he
          | false => exact yld_ld1 hR ha hx (by simpa using hv) he
        obtain ⟨c, c1, c2⟩ := hload
        refine ⟨c :: cs, ?_, .cons _ _ _ _ c2 h2⟩
        have hq : ∃ ad, a.tmps.getD q undef = .pointer (some ad) := by
          simp only [readRes] at hv
          have : ∃ id o, env.get q = some (.p (some (id, o))) := by
            cases ag <;> simp only [if_true, Bool.false_eq_true, if_false, aread, X.ev] at hv <;> split at hv <;> first | exact ⟨_, _, ‹_›⟩ | cases hv
          obtain ⟨id, o, hget⟩ := this
          obtain ⟨c', g1, g2⟩ := he.regs _ _ hget
          exact ⟨_, by simp only [Array.getD_eq_getD_getElem?, g1, Option.getD_some]; exact g2.ptr_inv.1⟩
        obtain ⟨ad, hq⟩ := hq
        have hc1 : (loadVar t ad).run P w = .ok c w := by
          have : a.eval (.tmp q) = .pointer (some ad) := hq
          rw [this] at c1
          simpa [Instr.loadAt, Instr.sureAddr] using c1
        have had : (asAddr (a.tmps.getD q undef)).run P w = .ok ad w := by rw [hq]; rfl
        simp only [List.mapM_cons, rvRun, Sem.run_bind, had, Sem.run_pure, Result.andThen_ok, hc1, h1]
      · cases h
    · cases hc

theorem pack_run {fn : Func} {vs : List V} {cs : List Value} (h : (fn.results.toList.mapM (rvRun a)).run P w = .ok cs w) (hr : RVs ι D vs cs) : ∃ c, (results fn a.tmps).run P w = .ok c w ∧ RV ι D (packRes vs) c := by
  have hrun : (results fn a.tmps).run P w = .ok (if h : cs.toArray.size = 1 then cs.toArray[0] else .tuple cs.toArray) w := by
    have e : results fn a.tmps = (do let vs ← fn.results.mapM (rvRun a); pure (if h : vs.size = 1 then vs[0] else .tuple vs)) := by
      unfold results
      congr 1
    rw [e, Array.mapM_eq_mapM_toList]
    simp only [Sem.run_bind, Sem.run_map, h, Result.andThen_ok, Sem.run_pure]
  refine ⟨_, hrun, ?_⟩
  cases hr with
  | nil => simp [packRes]; exact RV.tup [] [] .nil
  | cons v c vs cs h1 h2 =>
    cases h2 with
    | nil => simpa [packRes] using h1
    | cons u d us ds h3 h4 =>
      have := RV.tup (ι := ι) (D := D) _ _ (.cons _ _ _ _ h1 (.cons _ _ _ _ h3 h4))
      simpa [packRes] using this

/-- A CONTRACT, OUT OF THE BODY. -/
theorem acalls_of {f : FuncId} {af : AFn} {args : List V} {R : AEnd → AH → Prop} (hc : compFn P f = some af) (hl : args.length ≤ af.n) (h : awp P W0 af.code (bodyQ af.res R) (initEnv 0 args .leaf) H) : ACalls P W0 f args H R := by
  unfold compFn at hc
  split at hc
  · next fn hf =>
    split at hc
    · cases hc
    · next hnm =>
      split at hc
      · next c hb =>
        split at hc
        · next x rs hx hrs =>
          simp only [Option.some.injEq] at hc; subst hc
          refine ⟨⟨fn, hf, by simpa using hnm, by rw [hb]; rfl⟩, fun ι D w cs hv hR => ?_⟩
          have hlen := hv.length
          simp only at hl h
          refine calls_of_wpK hf hb (wpIn_wide (n := 0).1 ?_)
          have he : REnv [] ι D fn.ntmps (initEnv 0 args .leaf) { tmps := cs.toArray ++ Array.replicate (fn.ntmps - cs.toArray.size) undef, defers := [] } := by
            refine ⟨by simp; omega, rfl, fun t v hv' => ?_⟩
            rw [initEnv_get] at hv'
            split at hv'
            · next ht =>
              obtain ⟨c', g1, g2⟩ := hv.get _ _ hv'
              refine ⟨c', ?_, g2⟩
              have hlt := (List.getElem?_eq_some_iff.1 g1).1
              rw [Array.getElem?_append_left (by simpa using hlt)]
              simpa using g1
            · cases hv'
          have hsi : Sites P fn.ntmps f 0 c := fun j s hj => by
            unfold siteAt
            simp only [hf, hb, Nat.zero_add, hj]
          refine Code.wpIn_mono (fun e a' w' hlift => ?_) (show c.wpIn Fence.wide 0 P _ _ _ from awp_sound (ro := none) (fun _ => rfl) hx (fun _ => hsi) h he hR)
          obtain ⟨ae, ι', D', env', H', ds', g1, g2, g3, g4, g5, ⟨ms, hms, hnd, hmb⟩⟩ := hlift
          rw [List.append_nil] at hms
          have hdef : a'.defers = ms.map mark := g3.defers.trans hms
          have hfresh : ∀ b ∈ ms, w'.heap[b]? = some (.deferred (some [])) := fun b hb => (hmb b hb).2.2.1
          have hso : SameOut w' (shut ms w') := ⟨shut_out.1, shut_out.2.1, shut_out.2.2, by rw [shut_size]; exact Nat.le_refl _⟩
          have hlive : ∀ i o, H'.get i = some o → o.live = true → (ι' i).b ∉ ms := by
            intro i o ho hl hb
            have hbb := hfresh _ hb
            have := g4.objs i o ho
            cases o with
            | cells md cs => obtain ⟨c, e, fr, h1, _⟩ := this; rw [hbb] at h1; cases h1
            | map es => obtain ⟨_, ms, cl, h1, _⟩ := this; rw [hbb] at h1; cases h1
            | iter l p => obtain ⟨_, s, h1, _⟩ := this; rw [hbb] at h1; cases h1
            | mbox r => obtain ⟨_, ⟨e, h1⟩, _⟩ := this; rw [hbb] at h1; cases h1
            | miter r => obtain ⟨_, ⟨s, l, h1⟩, _⟩ := this; rw [hbb] at h1; cases h1
            | bld T r n => obtain ⟨_, p, v, h1, _⟩ := this; rw [hbb] at h1; cases h1
            | bbuf e l => obtain ⟨_, cur, fz, h1, _⟩ := this; rw [hbb] at h1; cases h1
            | loop st pend f k env => obtain ⟨_, r, n, h1, _⟩ := this; rw [hbb] at h1; cases h1
            | dead => cases hl
          have hRs : Rel P W0 ι' D' H' (shut ms w') := ⟨fun i o ho => RObj.mono Ext.refl (fun hl => shut_other (hlive i o ho hl)) (g4.objs i o ho), g4.dom, g4.lt, g4.get_lt, g4.apart, g4.new, fun i hi => by rw [shut_size]; exact g4.inw i hi,
            below_step g4 hso fun b hb => shut_other fun hm => by have := (hmb b hm).1; have := hR.below.size; omega⟩
          have hSs : Stp ι D H w ι' D' H' (shut ms w') := ⟨g5.ext, g5.newd, g5.next, fun b hb ho => (shut_other fun hm => by have := (hmb b hm).1; omega).trans (g5.keep b hb ho), g5.own, g5.live, by rw [shut_size]; exact g5.size, hso.os.trans g5.os, hso.tape.trans g5.tape, hso.output.trans g5.output⟩
          have fin : ∀ vs, readAll env' H' rs = some vs → R (.ret (packRes vs)) H' → ∃ ms : List Nat, a'.defers = ms.map mark ∧ ms.Nodup ∧ (∀ b ∈ ms, w'.heap[b]? = some (.deferred (some []))) ∧ ∃ v, (results fn a'.tmps).run P (shut ms w') = .ok v (shut ms w') ∧ ∃ ae ι'' D'' H'', R ae H'' ∧ REnd ι'' D'' ae (.returned v) ∧ Rel P W0 ι'' D'' H'' (shut ms w') ∧ Stp ι D H w ι'' D'' H'' (shut ms w') := by
            intro vs hvs hRv
            obtain ⟨ds, d1, d2⟩ := res_run (P := P) g3 hRs hrs hvs
            obtain ⟨c', c1, c2⟩ := pack_run d1 d2
            exact ⟨ms, hdef, hnd, hfresh, c', c1, .ret (packRes vs), ι', D', H', hRv, ⟨c', rfl, c2⟩, hRs, hSs⟩
          cases ae with
          | normal =>
            subst g2
            simp only [bodyQ] at g1
            split at g1
            · next vs hvs => exact fin vs hvs g1
            · exact g1.elim
          | ret =>
            subst g2
            simp only [bodyQ] at g1
            split at g1
            · next vs hvs => exact fin vs hvs g1
            · exact g1.elim
          | exit id => exact g1.elim
          | pan v =>
            obtain ⟨c', rfl, r⟩ := g2
            exact ⟨ms, hdef, hnd, hfresh, .pan v, ι', D', H', g1, ⟨c', rfl, r⟩, hRs, hSs⟩
        · cases hc
      · cases hc
  · cases hc

/-- What holds behind a round's body: the record is turned as the model turns it, yield hands on whether to go on. -/
def yieldQ (n : Nat) (R : AEnd → AH → Prop) : AExit → Env → AH → Prop
  | .normal, _, H => match H.get n with
    | some (.loop _ _ f k env) => R (.ret (.b true)) (H.set n (.loop .ready none f k env))
    | _ => False
  | .ret, _, H => match H.get n with
    | some (.loop _ _ f k env) => R (.ret (.b false)) (H.set n (.loop .done (some none) f k env))
    | _ => False
  | .exit id, _, H => match H.get n with
    | some (.loop _ _ f k env) => R (.ret (.b false)) (H.set n (.loop .done (some (some id)) f k env))
    | _ => False
  | .pan _, _, _ => False

/-- A loop's statement, compiled: its parameters, what assigns, what is done. -/
structure ALoop where
  ps : List Nat
  assign : ACode
  body : ACode

def compLoop (P : Program) (f k : Nat) : Option ALoop :=
  match siteAt P f k with
  | some (N, ps, assign, body) => if ps.toList.all (fun t => decide (t < N)) then (match compCode P N false f 0 assign, compCode P N false f 0 body with
    | some x, some y => some ⟨ps.toList, x, y⟩
    | _, _ => none) else none
  | none => none

def putPs : List Nat → List V → Env → Env
  | t :: ts, v :: vs, e => putPs ts vs (e.set t v)
  | _, _, e => e

/-- One round: the parameters, the assignments; the record is busy; the body. -/
def around (P : Program) (W0 : World) (n : Nat) (L : ALoop) (R : AEnd → AH → Prop) (env : Env) (H : AH) : Prop :=
  awp P W0 L.assign (fun e env₁ H₁ => e = .normal ∧ match H₁.get n with
    | some (.loop .ready pend f k env₀) => awp P W0 L.body (yieldQ n R) env₁ (H₁.set n (.loop .busy pend f k env₀))
    | _ => False) env H

theorem put_zip {N : Nat} : ∀ {ps : List Nat} {vs : List V} {cs : List Value} {env : Env} {tmps : Array Value}, ps.length = vs.length → (∀ t ∈ ps, t < N) → RVs ι D vs cs → tmps.size = N → (∀ t v, env.get t = some v → ∃ c, tmps[t]? = some c ∧ RV ι D v c) →
    ((ps.zip cs).foldl (fun (tmps : Array Value) (p : Nat × Value) => tmps.setIfInBounds p.1 p.2) tmps).size = N ∧ ∀ t v, (putPs ps vs env).get t = some v → ∃ c, ((ps.zip cs).foldl (fun (tmps : Array Value) (p : Nat × Value) => tmps.setIfInBounds p.1 p.2) tmps)[t]? = some c ∧ RV ι D v c
  | [], vs, cs, env, tmps, hl, hp, hv, hs, he => by cases vs <;> exact ⟨hs, he⟩
  | t :: ps, [], cs, env, tmps, hl, hp, hv, hs, he => by simp at hl
  | t :: ps, v :: vs, cs, env, tmps, hl, hp, hv, hs, he => by
    cases hv with
    | cons _ c _ cs h1 h2 =>
      simp only [List.zip_cons_cons, List.foldl_cons, putPs]
      refine put_zip (by simpa using hl) (fun t ht => hp t (by simp [ht])) h2 (by simpa using hs) fun u x hx => ?_
      rw [Tr.get_set] at hx
      by_cases e : u = t
      · subst e
        rw [if_pos rfl] at hx
        simp only [Option.some.injEq] at hx; subst hx
        exact ⟨c, by have := hp u (by simp); simp [hs, this], h1⟩
      · rw [if_neg e] at hx
        obtain ⟨c', g1, g2⟩ := he u x hx
        exact ⟨c', by rw [Array.getElem?_setIfInBounds_ne (fun h => e h.symm)]; exact g1, g2⟩

/-- A ROUND's CONTRACT, OUT OF ITS BODY. -/
theorem ayield_of {n : Nat} {L : ALoop} {f k : Nat} {st : LoopState} {pend : Option (Option Nat)} {env : Env} {vs : List V} {R : AEnd → AH → Prop} (hg : H.get n = some (.loop st pend f k env)) (hc : compLoop P f k = some L) (hl : L.ps.length = vs.length)
    (h : around P W0 n L R (putPs L.ps vs env) H) : AYield P W0 n vs H R := by
  intro ι D w cs hv hR hD
  unfold compLoop at hc
  split at hc
  rotate_left
  · cases hc
  next N ps assign body hsite =>
  split at hc
  rotate_left
  · cases hc
  next hps =>
  split at hc
  rotate_left
  · cases hc
  next x y hx hy =>
  simp only [Option.some.injEq] at hc; subst hc
  obtain ⟨h0, r, N', q1, q2, q3, q4, q5, q6⟩ := hR.objs _ _ hg
  rw [hsite] at q2
  simp only [Option.some.injEq, Prod.mk.injEq] at q2
  obtain ⟨rfl, p1, p2, p3⟩ := q2
  have hps' : ∀ t ∈ ps.toList, t < N := fun t ht => by have := List.all_eq_true.1 hps t ht; simpa using this
  simp only at hl h
  subst p2 p3
  obtain ⟨z1, z2⟩ := put_zip hl hps' hv q5 q6
  have hfold : (r.params.zip cs.toArray).foldl (fun tmps (t, a) => tmps.setIfInBounds t a) r.tmps = (ps.toList.zip cs).foldl (fun (tmps : Array Value) (p : Nat × Value) => tmps.setIfInBounds p.1 p.2) r.tmps := by
    rw [← p1, ← Array.foldl_toList]
    congr 1
    simp
  refine ⟨r, q1, by rw [← p1, ← hv.length, ← hl]; simp, ?_⟩
  rw [hfold]
  have he : REnv [] ι D N (putPs ps.toList vs env) { tmps := (ps.toList.zip cs).foldl (fun (tmps : Array Value) (p : Nat × Value) => tmps.setIfInBounds p.1 p.2) r.tmps, defers := [] } := ⟨z1, rfl, z2⟩
  have hro : ∀ l : Nat, (false = true → (some l : Option Nat) = none) := fun l h => by cases h
  -- the record written anew
  have wr : ∀ {ι₁ : Inj} {D₁ : Nat → Prop} {H₁ : AH} {w₁ : World} {st₁ : LoopState} {pend₁ : Option (Option Nat)} {f₁ k₁ : Nat} {env₁ : Env} (st₂ : LoopState) (pend₂ : Option (Option Nat)) (r₁ : Loop), Rel P W0 ι₁ D₁ H₁ w₁ → H₁.get n = some (.loop st₁ pend₁ f₁ k₁ env₁) → w₁.heap[(ι₁ n).b]? = some (.loop r₁) →
      Rel P W0 ι₁ D₁ (H₁.set n (.loop st₂ pend₂ f₁ k₁ env₁)) (w₁.putObj (ι₁ n).b (.loop { r₁ with state := st₂, pending := pend₂.map jumpOf })) ∧
      Stp ι₁ D₁ H₁ w₁ ι₁ D₁ (H₁.set n (.loop st₂ pend₂ f₁ k₁ env₁)) (w₁.putObj (ι₁ n).b (.loop { r₁ with state := st₂, pending := pend₂.map jumpOf })) := by
    intro ι₁ D₁ H₁ w₁ st₁ pend₁ f₁ k₁ env₁ st₂ pend₂ r₁ hR₁ hg₁ hb₁
    have hso : SameOut w₁ (w₁.putObj (ι₁ n).b (.loop { r₁ with state := st₂, pending := pend₂.map jumpOf })) := ⟨rfl, rfl, rfl, by simp⟩
    have hk : ∀ b, b ≠ (ι₁ n).b → (w₁.putObj (ι₁ n).b (.loop { r₁ with state := st₂, pending := pend₂.map jumpOf })).heap[b]? = w₁.heap[b]? := fun b hb => World.putObj_heap_other hb
    obtain ⟨h0, r', m, u1, u2, u3, u4, u5, u6⟩ := hR₁.objs _ _ hg₁
    rw [hb₁] at u1
    simp only [Option.some.injEq, Obj.loop.injEq] at u1; subst u1
    have hlt : (ι₁ n).b < w₁.heap.size := hR₁.inw n (hR₁.dom n _ hg₁ rfl)
    exact ⟨rel_set hR₁ hg₁ rfl (fun _ => rfl) hso hk ⟨h0, _, m, World.putObj_heap_same hlt, u2, rfl, rfl, u5, u6⟩, stp_set hg₁ rfl hso hk⟩
  refine roundIn_of_wpIn trivial ?_
  refine Code.wpIn_mono (fun e a₁ w₁ hlift => ?_) (show r.assign.wpIn (Fence.wide.inRound (ι n).b) 0 P _ _ _ from awp_sound (ro := some (ι n).b) (top := false) (hro _) hx (fun h => by cases h) h he hR)
  obtain ⟨ae, ι₁, D₁, env₁, H₁, ds₁, ⟨rfl, g1⟩, rfl, g3, g4, g5, _⟩ := hlift
  split at g1
  rotate_left
  · exact g1.elim
  next pend₁ f₁ k₁ env₀ hg₁ =>
  have hin₁ : ι₁ n = ι n := (g5.ext n hD).2
  obtain ⟨_, r₁, m₁, u1, u2, u3, u4, u5, u6⟩ := g4.objs _ _ hg₁
  obtain ⟨hR₂, hS₂⟩ := wr .busy pend₁ r₁ g4 hg₁ u1
  rw [hin₁] at u1
  refine ⟨_, run_beginRound u1 u3, ?_⟩
  have e₂ : w₁.putObj (ι n).b (.loop { r₁ with state := .busy }) = w₁.putObj (ι₁ n).b (.loop { r₁ with state := .busy, pending := pend₁.map jumpOf }) := by rw [hin₁, ← u4]
  rw [e₂]
  have g3' := g3
  refine Code.wpIn_mono (fun e a₂ w₃ hlift => ?_) (show r.body.wpIn (Fence.wide.inRound (ι n).b) 0 P _ _ _ from awp_sound (ro := some (ι n).b) (top := false) (hro _) hy (fun h => by cases h) g1 g3' hR₂)
  obtain ⟨ae, ι₂, D₂, env₂, H₂, ds₂, k1, k2, k3, k4, k5, _⟩ := hlift
  have hst : Stp ι D H w ι₂ D₂ H₂ w₃ := (g5.trans hS₂).trans k5
  have hin₂ : ι₂ n = ι n := (hst.ext n hD).2
  cases ae with
  | normal =>
    subst k2
    simp only [yieldQ] at k1
    split at k1
    rotate_left
    · exact k1.elim
    next st₂ pend₂ f₂ k₂ env₃ hg₂ =>
    obtain ⟨_, r₂, m₂, v1, v2, v3, v4, v5, v6⟩ := k4.objs _ _ hg₂
    obtain ⟨hR₃, hS₃⟩ := wr .ready none r₂ k4 hg₂ v1
    rw [hin₂] at v1 hR₃ hS₃
    exact ⟨_, _, run_endRound none v1, .ret (.b true), ι₂, D₂, _, k1, ⟨_, rfl, .b true⟩, hR₃, hst.trans hS₃⟩
  | ret =>
    subst k2
    simp only [yieldQ] at k1
    split at k1
    rotate_left
    · exact k1.elim
    next st₂ pend₂ f₂ k₂ env₃ hg₂ =>
    obtain ⟨_, r₂, m₂, v1, v2, v3, v4, v5, v6⟩ := k4.objs _ _ hg₂
    obtain ⟨hR₃, hS₃⟩ := wr .done (some none) r₂ k4 hg₂ v1
    rw [hin₂] at v1 hR₃ hS₃
    exact ⟨_, _, run_endRound (some .ret) v1, .ret (.b false), ι₂, D₂, _, k1, ⟨_, rfl, .b false⟩, hR₃, hst.trans hS₃⟩
  | exit id =>
    subst k2
    simp only [yieldQ] at k1
    split at k1
    rotate_left
    · exact k1.elim
    next st₂ pend₂ f₂ k₂ env₃ hg₂ =>
    obtain ⟨_, r₂, m₂, v1, v2, v3, v4, v5, v6⟩ := k4.objs _ _ hg₂
    obtain ⟨hR₃, hS₃⟩ := wr .done (some (some id)) r₂ k4 hg₂ v1
    rw [hin₂] at v1 hR₃ hS₃
    exact ⟨_, _, run_endRound (some (.exit id)) v1, .ret (.b false), ι₂, D₂, _, k1, ⟨_, rfl, .b false⟩, hR₃, hst.trans hS₃⟩
  | pan v => exact k1.elim

end Ram
