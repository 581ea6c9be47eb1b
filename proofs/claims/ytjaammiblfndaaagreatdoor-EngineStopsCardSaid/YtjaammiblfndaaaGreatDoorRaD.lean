/- the abstract machine: tools. -/
import Derived.Test.YtjaammiblfndaaaGreatDoorRaC
import Derived.ChangeSame
import Derived.Below
import Derived.SliceStrings
import Derived.WideKeyArgs
import Derived.DataReads
import Derived.Carry
import Derived.ProofKit
import Derived.OpenShut
import Derived.Sort.Row
import Derived.Sort.Grow
set_option linter.unusedVariables false
set_option linter.unusedSimpArgs false
set_option linter.all false
/- Tools over the abstract machine: what its words mean, step by step; heaps that grow; slices by rows. -/
namespace Ram
open Go

theorem nrfl {α : Type} {a b : α} (h : a = b) : a = b := h
theorem nrflP {a b : Prop} (h : a = b) : a = b := h

/-- What is to be looked at later, not now. -/
class Box (α : Type) where
  val : α
def hide {α : Type} [b : Box α] : α := b.val
theorem hide1 {A : Type} (K : A → Prop) (a : A) : @hide (A → Prop) ⟨K⟩ a = K a := nrflP rfl
theorem hide2 {A B : Type} (K : A → B → Prop) (a : A) (b : B) : @hide (A → B → Prop) ⟨K⟩ a b = K a b := nrflP rfl
theorem hide3 {A B C : Type} (K : A → B → C → Prop) (a : A) (b : B) (c : C) : @hide (A → B → C → Prop) ⟨K⟩ a b c = K a b c := nrflP rfl
attribute [simp] hide1 hide2 hide3

/-- What holds of a value, if there is one. -/
def onV (o : Option V) (H : AH) (K : V → AH → Prop) : Prop := match o with
  | some v => K v H
  | none => False
def onP (o : Option V) (K : V → Prop) : Prop := match o with
  | some v => K v
  | none => False
def onA (o : Option (AO × (Nat → V))) (H : AH) (K : V → AH → Prop) : Prop := match o with
  | some (obj, mk) => K (mk H.next) (H.alloc obj)
  | none => False
def onD (o : Option (AO × (Nat → V))) (n : Nat) (K : V → AO → Prop) : Prop := match o with
  | some (obj, mk) => K (mk n) obj
  | none => False
def onAct (o : Option (V × AH)) (K : V → AH → Prop) : Prop := match o with
  | some (v, H') => K v H'
  | none => False
def onB (o : Option Bool) (A B : Unit → Prop) : Prop := match o with
  | some true => A ()
  | some false => B ()
  | none => False
def condP (o : Option V) (A B : Unit → Prop) : Prop := match o with
  | some (.b true) => A ()
  | some (.b false) => B ()
  | _ => False
def callP (P : Program) (W0 : World) (f : FuncId) (o : Option (List V)) (H : AH) (R : AEnd → AH → Prop) : Prop := match o with
  | some vs => ACalls P W0 f vs H R
  | none => False
def callVP (P : Program) (W0 : World) (g : Option V) (o : Option (List V)) (H : AH) (R : AEnd → AH → Prop) : Prop := match g, o with
  | some (.f (.func f) us bs), some vs => ACalls P W0 f (us ++ vs ++ bs) H R
  | some (.f (.yield n) [] []), some vs => AYield P W0 n vs H R
  | _, _ => False
def panP (o : Option V) (K : V → Prop) : Prop := match o with
  | some (.ifc t v) => K (.ifc t v)
  | _ => False
def resP (o : Option (List V)) (H : AH) (R : AEnd → AH → Prop) : Prop := match o with
  | some vs => R (.ret (packRes vs)) H
  | none => False
def chkP (c : Prop) (A : Unit → Prop) : Prop := c ∧ A ()

section
variable {P : Program} {W0 : World} {Q : AExit → Env → AH → Prop} {R : AEnd → AH → Prop} {env : Env} {H : AH} {K : V → AH → Prop} {K1 : V → Prop} {KE : Env → AH → Prop} {A B : Unit → Prop}
@[simp] theorem onV_some {v : V} : onV (some v) H K = K v H := nrflP rfl
@[simp] theorem onV_none : onV none H K = False := nrflP rfl
@[simp] theorem onP_some {v : V} : onP (some v) K1 = K1 v := nrflP rfl
@[simp] theorem onP_none : onP none K1 = False := nrflP rfl
@[simp] theorem onA_some {o : AO} {mk : Nat → V} : onA (some (o, mk)) H K = K (mk H.next) (H.alloc o) := nrflP rfl
@[simp] theorem onA_none : onA none H K = False := nrflP rfl
@[simp] theorem onD_some {o : AO} {mk : Nat → V} {n : Nat} {K : V → AO → Prop} : onD (some (o, mk)) n K = K (mk n) o := nrflP rfl
@[simp] theorem onD_none {n : Nat} {K : V → AO → Prop} : onD none n K = False := nrflP rfl
@[simp] theorem onAct_some {v : V} {H' : AH} : onAct (some (v, H')) K = K v H' := nrflP rfl
@[simp] theorem onAct_none : onAct none K = False := nrflP rfl
@[simp] theorem onB_true : onB (some true) A B = A () := nrflP rfl
@[simp] theorem onB_false : onB (some false) A B = B () := nrflP rfl
@[simp] theorem onB_none : onB none A B = False := nrflP rfl
@[simp] theorem condP_true : condP (some (.b true)) A B = A () := nrflP rfl
@[simp] theorem condP_false : condP (some (.b false)) A B = B () := nrflP rfl
@[simp] theorem condP_none : condP none A B = False := nrflP rfl
@[simp] theorem callP_some {f : FuncId} {vs : List V} : callP P W0 f (some vs) H R = ACalls P W0 f vs H R := nrflP rfl
@[simp] theorem callP_none {f : FuncId} : callP P W0 f none H R = False := nrflP rfl
@[simp] theorem callVP_yield {n : Nat} {vs : List V} : callVP P W0 (some (.f (.yield n) [] [])) (some vs) H R = AYield P W0 n vs H R := nrflP rfl
@[simp] theorem callVP_some {f : FuncId} {us vs bs : List V} : callVP P W0 (some (.f (.func f) us bs)) (some vs) H R = ACalls P W0 f (us ++ vs ++ bs) H R := nrflP rfl
@[simp] theorem panP_some {t : TypeId} {v : V} : panP (some (.ifc t v)) K1 = K1 (.ifc t v) := nrflP rfl
@[simp] theorem resP_some {vs : List V} : resP (some vs) H R = R (.ret (packRes vs)) H := nrflP rfl
@[simp] theorem resP_none : resP none H R = False := nrflP rfl
@[simp] theorem chkP_true : chkP True A = A () := by unfold chkP; simp

@[simp ↓] theorem thenQ_normal : thenQ KE Q .normal env H = KE env H := nrflP rfl
@[simp ↓] theorem thenQ_exit {i : Nat} : thenQ KE Q (.exit i) env H = Q (.exit i) env H := nrflP rfl
@[simp ↓] theorem thenQ_ret : thenQ KE Q .ret env H = Q .ret env H := nrflP rfl
@[simp ↓] theorem thenQ_pan {v : V} : thenQ KE Q (.pan v) env H = Q (.pan v) env H := nrflP rfl
@[simp ↓] theorem inBlk_exit {id i : Nat} : inBlk id Q (.exit i) env H = onB (some (decide (i = id))) (@hide _ ⟨fun _ => Q .normal env H⟩) (@hide _ ⟨fun _ => Q (.exit i) env H⟩) := by
  simp only [inBlk, onB]
  by_cases h : i = id <;> simp [h]
@[simp ↓] theorem inBlk_normal {id : Nat} : inBlk id Q .normal env H = Q .normal env H := nrflP rfl
@[simp ↓] theorem inBlk_ret {id : Nat} : inBlk id Q .ret env H = Q .ret env H := nrflP rfl
@[simp ↓] theorem inBlk_pan {id : Nat} {v : V} : inBlk id Q (.pan v) env H = Q (.pan v) env H := nrflP rfl
@[simp ↓] theorem after_ret {v : V} : after Q K (.ret v) H = K v H := nrflP rfl
@[simp ↓] theorem after_pan {v : V} : after Q K (.pan v) H = Q (.pan v) .leaf H := nrflP rfl
@[simp ↓] theorem bodyQ_normal {rs : List ARes} : bodyQ rs R .normal env H = resP (readAll env H rs) H R := nrflP rfl
@[simp ↓] theorem bodyQ_ret {rs : List ARes} : bodyQ rs R .ret env H = resP (readAll env H rs) H R := nrflP rfl
@[simp ↓] theorem bodyQ_pan {rs : List ARes} {v : V} : bodyQ rs R (.pan v) env H = R (.pan v) H := nrflP rfl

@[simp ↓] theorem awp_skip : awp P W0 .skip Q env H = Q .normal env H := nrflP rfl
@[simp ↓] theorem awp_reg {l : List AOper} : awp P W0 (.reg l) Q env H = aops P W0 Q l env H := nrflP rfl
@[simp ↓] theorem awp_draw {m : Nat} {l : List DStage} : awp P W0 (.draw m l) Q env H = dstages P W0 Q H.next l 0 env (H.bump m) [] := nrflP rfl
@[simp ↓] theorem awp_seq {x y : ACode} : awp P W0 (.seq x y) Q env H = awp P W0 x (@hide _ ⟨(thenQ (fun env H => awp P W0 y Q env H) Q)⟩) env H := nrflP rfl
@[simp ↓] theorem awp_cond {c : X} {x y : ACode} : awp P W0 (.cond c x y) Q env H = condP (c.ev env) (@hide _ ⟨fun _ => awp P W0 x Q env H⟩) (@hide _ ⟨fun _ => awp P W0 y Q env H⟩) := nrflP rfl
@[simp ↓] theorem awp_block {id : Nat} {x : ACode} : awp P W0 (.block id x) Q env H = awp P W0 x (@hide _ ⟨(inBlk id Q)⟩) env H := nrflP rfl
@[simp ↓] theorem awp_exit {id : Nat} : awp P W0 (.exit id) Q env H = Q (.exit id) env H := nrflP rfl
@[simp ↓] theorem awp_ret : awp P W0 .ret Q env H = Q .ret env H := nrflP rfl
@[simp ↓] theorem aops_nil : aops P W0 Q [] env H = Q .normal env H := nrflP rfl
@[simp ↓] theorem aops_cons {dst : Option Nat} {op : AOp} {r : List AOper} : aops P W0 Q (⟨dst, op, none⟩ :: r) env H = aop1 P W0 Q op env H (@hide _ ⟨(fun v H' => aops P W0 Q r (putE env dst v) H')⟩) := nrflP rfl
@[simp ↓] theorem aops_guard {dst : Option Nat} {op : AOp} {g : Nat × Bool} {r : List AOper} : aops P W0 Q (⟨dst, op, some g⟩ :: r) env H = onB (guardOk env (some g)) (@hide _ ⟨fun _ => aops P W0 Q (⟨dst, op, none⟩ :: r) env H⟩) (@hide _ ⟨fun _ => aops P W0 Q r (putE env dst (.tup [])) H⟩) := nrflP rfl
@[simp ↓] theorem aop1_call {f : FuncId} {xs : List X} : aop1 P W0 Q (.call f xs) env H K = callP P W0 f (evs env xs) H (@hide _ ⟨(after Q K)⟩) := nrflP rfl
@[simp ↓] theorem aop1_callV {g : X} {xs : List X} : aop1 P W0 Q (.callV g xs) env H K = callVP P W0 (g.ev env) (evs env xs) H (@hide _ ⟨(after Q K)⟩) := nrflP rfl
@[simp ↓] theorem aop1_pan {x : X} : aop1 P W0 Q (.pan x) env H K = panP (x.ev env) (@hide _ ⟨fun v => Q (.pan v) .leaf H⟩) := nrflP rfl
@[simp ↓] theorem aop1_pure {o : PureOp} : aop1 P W0 Q (.pure o) env H K = onV (apure o env) H K := nrflP rfl
@[simp ↓] theorem aop1_read {o : ReadOp} : aop1 P W0 Q (.read o) env H K = onV (aread o env H) H K := nrflP rfl
@[simp ↓] theorem aop1_alloc {o : AllocOp} : aop1 P W0 Q (.alloc o) env H K = onA (aalloc o env) H K := nrflP rfl
@[simp ↓] theorem aop1_act {o : ActOp} : aop1 P W0 Q (.act o) env H K = onAct (aact o env H) K := nrflP rfl
@[simp ↓] theorem dstages_end {base k : Nat} {chk : List AOper} {items : List DItem} {r : List DStage} {pend : Pend} : dstages P W0 Q base (⟨chk, items, none⟩ :: r) k env H pend = chkP (dchk env H chk) (@hide _ ⟨fun _ => ditems base H items env pend (@hide _ ⟨fun env pend => Q .normal env (flushAt base k pend H)⟩)⟩) := nrflP rfl
@[simp ↓] theorem dstages_act {base k : Nat} {chk : List AOper} {items : List DItem} {dst : Option Nat} {op : AOp} {r : List DStage} {pend : Pend} : dstages P W0 Q base (⟨chk, items, some ⟨dst, op, none⟩⟩ :: r) k env H pend = chkP (dchk env H chk) (@hide _ ⟨fun _ => ditems base H items env pend (@hide _ ⟨fun env pend =>
    aop1 P W0 Q op env (flushAt base k pend H) (@hide _ ⟨fun v H' => dstages P W0 Q base r (k + 1) (putE env dst v) H' (restAt k pend)⟩)⟩)⟩) := nrflP rfl
@[simp ↓] theorem dstages_guard {base k : Nat} {chk : List AOper} {items : List DItem} {dst : Option Nat} {op : AOp} {g : Nat × Bool} {r : List DStage} {pend : Pend} : dstages P W0 Q base (⟨chk, items, some ⟨dst, op, some g⟩⟩ :: r) k env H pend = chkP (dchk env H chk) (@hide _ ⟨fun _ => ditems base H items env pend (@hide _ ⟨fun env pend =>
    onB (guardOk env (some g)) (@hide _ ⟨fun _ => aop1 P W0 Q op env (flushAt base k pend H) (@hide _ ⟨fun v H' => dstages P W0 Q base r (k + 1) (putE env dst v) H' (restAt k pend)⟩)⟩)
      (@hide _ ⟨fun _ => dstages P W0 Q base r (k + 1) (putE env dst (.tup [])) (flushAt base k pend H) (restAt k pend)⟩)⟩)⟩) := nrflP rfl
variable {base i h : Nat} {dst : Option Nat} {r : List DItem} {pend : Pend} {KD : Env → Pend → Prop}
@[simp ↓] theorem ditems_nil : ditems base H [] env pend KD = KD env pend := nrflP rfl
@[simp ↓] theorem ditems_pure {p : PureOp} : ditems base H (⟨i, ⟨dst, .pure p, none⟩, h⟩ :: r) env pend KD = onP (apure p env) (@hide _ ⟨fun v => ditems base H r (putE env dst v) pend KD⟩) := nrflP rfl
@[simp ↓] theorem ditems_read {p : ReadOp} : ditems base H (⟨i, ⟨dst, .read p, none⟩, h⟩ :: r) env pend KD = onP (aread p env H) (@hide _ ⟨fun v => ditems base H r (putE env dst v) pend KD⟩) := nrflP rfl
@[simp ↓] theorem ditems_alloc {p : AllocOp} : ditems base H (⟨i, ⟨dst, .alloc p, none⟩, h⟩ :: r) env pend KD = onD (aalloc p env) (base + i) (@hide _ ⟨fun v obj => ditems base H r (putE env dst v) ((i, h, obj) :: pend) KD⟩) := nrflP rfl
@[simp ↓] theorem ditems_guard {op : AOp} {g : Nat × Bool} : ditems base H (⟨i, ⟨dst, op, some g⟩, h⟩ :: r) env pend KD = onB (guardOk env (some g)) (@hide _ ⟨fun _ => ditems base H (⟨i, ⟨dst, op, none⟩, h⟩ :: r) env pend KD⟩) (@hide _ ⟨fun _ => ditems base H r (putE env dst (.tup [])) pend KD⟩) := nrflP rfl
/-- A loop: what holds at its head; a number that falls. -/
theorem awp_loop {x : ACode} (I : Nat → Env → AH → Prop) (n : Nat) (h0 : I n env H) (hr : ∀ n env H, I n env H → awp P W0 x (@hide _ ⟨thenQ (fun env' H' => ∃ m, m < n ∧ I m env' H') Q⟩) env H) : awp P W0 (.loop x) Q env H :=
  ⟨I, n, h0, hr⟩
end

@[simp] theorem V.one_b (x : Bool) : V.one (.b x) = true := rfl
@[simp] theorem V.cells_b (x : Bool) : V.cells (.b x) = [.b x] := rfl
@[simp] theorem V.one_i (k : IntKind) (x : Int) : V.one (.i k x) = true := rfl
@[simp] theorem V.cells_i (k : IntKind) (x : Int) : V.cells (.i k x) = [.i k x] := rfl
@[simp] theorem V.one_s (x : List UInt8) : V.one (.s x) = true := rfl
@[simp] theorem V.cells_s (x : List UInt8) : V.cells (.s x) = [.s x] := rfl
@[simp] theorem V.one_p (x : Option (Nat × Nat)) : V.one (.p x) = true := rfl
@[simp] theorem V.cells_p (x : Option (Nat × Nat)) : V.cells (.p x) = [.p x] := rfl
@[simp] theorem V.one_sl (e : Nat) (x : Option (Nat × Nat)) (a c : Nat) : V.one (.sl e x a c) = true := rfl
@[simp] theorem V.cells_sl (e : Nat) (x : Option (Nat × Nat)) (a c : Nat) : V.cells (.sl e x a c) = [.sl e x a c] := rfl
@[simp] theorem V.one_m (x : Option Nat) : V.one (.m x) = true := rfl
@[simp] theorem V.cells_m (x : Option Nat) : V.cells (.m x) = [.m x] := rfl
@[simp] theorem V.one_f (g : Fn) (x y : List V) : V.one (.f g x y) = true := rfl
@[simp] theorem V.cells_f (g : Fn) (x y : List V) : V.cells (.f g x y) = [.f g x y] := rfl
@[simp] theorem V.one_nf  : V.one .nf = true := rfl
@[simp] theorem V.cells_nf  : V.cells .nf = [.nf] := rfl
@[simp] theorem V.one_ifc (t : TypeId) (x : V) : V.one (.ifc t x) = true := rfl
@[simp] theorem V.cells_ifc (t : TypeId) (x : V) : V.cells (.ifc t x) = [.ifc t x] := rfl
@[simp] theorem V.one_ni  : V.one .ni = true := rfl
@[simp] theorem V.cells_ni  : V.cells .ni = [.ni] := rfl
@[simp] theorem V.cells_agg (x : List V) : V.cells (.agg x) = x := rfl
@[simp] theorem V.one_agg (x : List V) : V.one (.agg x) = false := rfl

@[simp] theorem bump_zero (H : AH) : H.bump 0 = H := rfl
attribute [simp] apure aread aalloc aact X.ev evs fillV guardOk putE readAll readRes packRes initEnv Tr.get_set dchk hasE flushAt restAt bump_get binI bnd cut2 newCells mxL AH.get_alloc AH.get_set
@[simp] theorem AH.next_alloc' {H : AH} {o : AO} : (H.alloc o).next = H.next + 1 := nrfl rfl
@[simp] theorem bump_next' {H : AH} {m : Nat} : (H.bump m).next = H.next + m := nrfl (bump_next H m)
@[simp] theorem AH.next_set' {H : AH} {i : Nat} {o : AO} : (H.set i o).next = H.next := nrfl rfl

/-- A contract out of the body; what is to be shown at the end is looked at last. -/
theorem acalls_by {P : Program} {W0 : World} {f : FuncId} {n : Nat} {code : ACode} {res : List ARes} {args : List V} {H : AH} {R : AEnd → AH → Prop} (hc : compFn P f = some ⟨n, code, res⟩) (hl : args.length ≤ n) (h : awp P W0 code (@hide _ ⟨(bodyQ res (@hide _ ⟨R⟩))⟩) (initEnv 0 args .leaf) H) : ACalls P W0 f args H R :=
  acalls_of hc hl h

/-- The heap has grown: but for these nothing that was there is turned. -/
structure Keeps (F : Nat → Prop) (H H' : AH) : Prop where
  next : H.next ≤ H'.next
  get : ∀ i, i < H.next → ¬ F i → H'.get i = H.get i

def NoId : Nat → Prop := fun _ => False
abbrev Grows (H H' : AH) : Prop := Keeps NoId H H'

theorem Keeps.refl {F : Nat → Prop} {H : AH} : Keeps F H H := ⟨Nat.le_refl _, fun _ _ _ => rfl⟩
theorem Keeps.trans {F : Nat → Prop} {H₁ H₂ H₃ : AH} (h : Keeps F H₁ H₂) (k : Keeps F H₂ H₃) : Keeps F H₁ H₃ :=
  ⟨Nat.le_trans h.next k.next, fun i hi hf => (k.get i (Nat.lt_of_lt_of_le hi h.next) hf).trans (h.get i hi hf)⟩
theorem Keeps.mono {F F' : Nat → Prop} {H H' : AH} (h : Keeps F H H') (hf : ∀ i, i < H.next → F i → F' i) : Keeps F' H H' :=
  ⟨h.next, fun i hi hn => h.get i hi fun hF => hn (hf i hi hF)⟩
theorem Keeps.alloc {F : Nat → Prop} {H : AH} {o : AO} : Keeps F H (H.alloc o) :=
  ⟨by rw [AH.next_alloc]; omega, fun i hi _ => by rw [AH.get_alloc, if_neg (Nat.ne_of_lt hi)]⟩
theorem Keeps.set {F : Nat → Prop} {H : AH} {i : Nat} {o : AO} (hF : i < H.next → F i) : Keeps F H (H.set i o) :=
  ⟨Nat.le_refl _, fun j hj hn => by rw [AH.get_set, if_neg]; intro e; subst e; exact hn (hF hj)⟩
theorem Keeps.alloc' {F : Nat → Prop} {H H' : AH} {o : AO} (h : Keeps F H H') : Keeps F H (H'.alloc o) := h.trans Keeps.alloc
theorem Keeps.set_new {F : Nat → Prop} {H H' : AH} {i : Nat} {o : AO} (h : Keeps F H H') (hi : H.next ≤ i) : Keeps F H (H'.set i o) :=
  ⟨h.next, fun j hj hn => by rw [AH.get_set, if_neg (by omega)]; exact h.get j hj hn⟩
theorem Keeps.set_own {F : Nat → Prop} {H H' : AH} {i : Nat} {o : AO} (h : Keeps F H H') (hF : F i) : Keeps F H (H'.set i o) :=
  ⟨h.next, fun j hj hn => by rw [AH.get_set, if_neg (fun e => hn (by rw [e]; exact hF))]; exact h.get j hj hn⟩
theorem Grows.keeps {F : Nat → Prop} {H H' : AH} (h : Grows H H') : Keeps F H H' := Keeps.mono h fun _ _ h => h.elim
theorem Grows.at {H H' : AH} (h : Grows H H') {i : Nat} {o : AO} (hi : i < H.next) (hg : H.get i = some o) : H'.get i = some o := (h.get i hi id).trans hg
theorem Keeps.at {F : Nat → Prop} {H H' : AH} (h : Keeps F H H') {i : Nat} {o : AO} (hi : i < H.next) (hf : ¬ F i) (hg : H.get i = some o) : H'.get i = some o := (h.get i hi hf).trans hg

/-- A slice of rows, each of so many cells: where it lies, and what lies there. -/
structure SlAt (H : AH) (md : Md) (es id o cap : Nat) (rows : List (List V)) (cs : List V) : Prop where
  get : H.get id = some (.cells md cs)
  lt : id < H.next
  le : rows.length ≤ cap
  fit : o + cap * es = cs.length
  flat : (cs.drop o).take (rows.length * es) = rows.flatten
  each : ∀ r ∈ rows, r.length = es

def SlV (H : AH) (md : Md) (es : Nat) (v : V) (rows : List (List V)) (F : Nat → Prop) : Prop :=
  (rows = [] ∧ ∃ e, v = .sl e none 0 0) ∨ ∃ id o cap cs, v = .sl es (some (id, o)) rows.length cap ∧ F id ∧ SlAt H md es id o cap rows cs

theorem SlV.len {H : AH} {md : Md} {es : Nat} {v : V} {rows : List (List V)} {F : Nat → Prop} (hs : SlV H md es v rows F) : ∃ e a cap, v = .sl e a rows.length cap := by
  rcases hs with ⟨rfl, e, rfl⟩ | ⟨id, o, cap, cs, rfl, _⟩
  · exact ⟨e, none, 0, rfl⟩
  · exact ⟨es, _, cap, rfl⟩

@[simp] theorem beq_int (a b : Int) : (a == b) = decide (a = b) := rfl
@[simp] theorem bne_int (a b : Int) : (a != b) = !decide (a = b) := rfl

theorem flatten_row {es : Nat} : ∀ {rows : List (List V)} {i : Nat} {r : List V}, (∀ r ∈ rows, r.length = es) → rows[i]? = some r → (rows.flatten.drop (i * es)).take es = r
  | [], i, r, _, h => by simp at h
  | x :: l, i, r, he, h => by
    have hx : x.length = es := he x (by simp)
    cases i with
    | zero => simp at h; subst h; simp [← hx]
    | succ i =>
      simp at h
      rw [List.flatten_cons, List.drop_append]
      have : x.drop ((i + 1) * es) = [] := List.drop_eq_nil_of_le (by rw [hx, Nat.add_mul]; omega)
      rw [this, List.nil_append, hx, show (i + 1) * es - es = i * es by rw [Nat.add_mul]; omega]
      exact flatten_row (fun r hr => he r (by simp [hr])) h

theorem flatten_length {es : Nat} : ∀ {rows : List (List V)}, (∀ r ∈ rows, r.length = es) → rows.flatten.length = rows.length * es
  | [], _ => by simp
  | x :: l, he => by
    rw [List.flatten_cons, List.length_append, he x (by simp), flatten_length (rows := l) fun r hr => he r (by simp [hr]), List.length_cons, Nat.add_mul]; omega

theorem SlAt.row {H : AH} {md : Md} {es id o cap : Nat} {rows : List (List V)} {cs : List V} (h : SlAt H md es id o cap rows cs) {i : Nat} {r : List V} (hr : rows[i]? = some r) : ldCells H id (o + i * es) es = some r := by
  have hi : i < rows.length := (List.getElem?_eq_some_iff.1 hr).1
  have h1 : (i + 1) * es ≤ rows.length * es := Nat.mul_le_mul_right _ hi
  have h2 : rows.length * es ≤ cap * es := Nat.mul_le_mul_right _ h.le
  have h3 := h.fit
  rw [Nat.add_mul] at h1
  unfold ldCells
  rw [h.get]
  simp only
  rw [if_pos (by omega)]
  congr 1
  rw [← flatten_row h.each hr, ← h.flat, List.drop_take, List.take_take, List.drop_drop]
  congr 1
  omega

theorem ldCells_all {H : AH} {md : Md} {id n : Nat} {cs : List V} (h : H.get id = some (.cells md cs)) (hn : cs.length = n) : ldCells H id 0 n = some cs := by
  unfold ldCells; rw [h]; subst hn; simp

theorem SlAt.row_part {H : AH} {md : Md} {es id o cap : Nat} {rows : List (List V)} {cs : List V} (h : SlAt H md es id o cap rows cs) {i : Nat} {r : List V} (hr : rows[i]? = some r) {off n : Nat} (ho : off + n ≤ es) : ldCells H id (o + i * es + off) n = some ((r.drop off).take n) := by
  have hi : i < rows.length := (List.getElem?_eq_some_iff.1 hr).1
  have h1 : (i + 1) * es ≤ rows.length * es := Nat.mul_le_mul_right _ hi
  have h2 : rows.length * es ≤ cap * es := Nat.mul_le_mul_right _ h.le
  have h3 := h.fit
  rw [Nat.add_mul] at h1
  have hrow := h.row hr
  unfold ldCells at hrow ⊢
  rw [h.get] at hrow ⊢
  simp only at hrow ⊢
  rw [if_pos (by omega)] at hrow ⊢
  simp only [Option.some.injEq] at hrow
  rw [← hrow, List.drop_take, List.take_take, List.drop_drop]
  congr 2
  omega

theorem splice_parts {A B vs : List V} {n : Nat} (h : A.length = n) : splice (A ++ B) n vs = A ++ vs ++ B.drop vs.length := by
  subst h
  unfold splice
  rw [List.take_append_of_le_length (Nat.le_refl _), List.take_length, List.drop_append]
  simp

/-- The cells ahead of the rows, and behind them. -/
theorem SlAt.parts {H : AH} {md : Md} {es id o cap : Nat} {rows : List (List V)} {cs : List V} (h : SlAt H md es id o cap rows cs) : ∃ A B, cs = A ++ rows.flatten ++ B ∧ A.length = o ∧ B.length = (cap - rows.length) * es := by
  have h2 : rows.length * es ≤ cap * es := Nat.mul_le_mul_right _ h.le
  have h3 := h.fit
  refine ⟨cs.take o, cs.drop (o + rows.length * es), ?_, by simp; omega, by simp [Nat.sub_mul]; omega⟩
  rw [← h.flat, List.append_assoc, ← List.drop_drop, List.take_append_drop, List.take_append_drop]

theorem SlAt.of {H : AH} {md : Md} {es id o cap : Nat} {rows : List (List V)} {A B : List V} (hg : H.get id = some (.cells md (A ++ rows.flatten ++ B))) (hl : id < H.next) (he : ∀ r ∈ rows, r.length = es) (ha : A.length = o) (hb : B.length = (cap - rows.length) * es) (hc : rows.length ≤ cap) :
    SlAt H md es id o cap rows (A ++ rows.flatten ++ B) := by
  have h2 : rows.length * es ≤ cap * es := Nat.mul_le_mul_right _ hc
  have hf := flatten_length he
  refine ⟨hg, hl, hc, by simp only [List.length_append, hf, ha, hb, Nat.sub_mul]; omega, ?_, he⟩
  subst ha
  rw [List.append_assoc, List.drop_append_of_le_length (Nat.le_refl _), List.drop_length, List.nil_append, ← hf, List.take_append_of_le_length (Nat.le_refl _), List.take_length]

theorem SlAt.keep {F : Nat → Prop} {H H' : AH} {md : Md} {es id o cap : Nat} {rows : List (List V)} {cs : List V} (h : SlAt H md es id o cap rows cs) (hk : Keeps F H H') (hf : ¬ F id) : SlAt H' md es id o cap rows cs :=
  ⟨hk.at h.lt hf h.get, Nat.lt_of_lt_of_le h.lt hk.next, h.le, h.fit, h.flat, h.each⟩

theorem SlV.keep {F G : Nat → Prop} {H H' : AH} {md : Md} {es : Nat} {v : V} {rows : List (List V)} (h : SlV H md es v rows F) (hk : Keeps G H H') (hf : ∀ i, F i → ¬ G i) : SlV H' md es v rows F := by
  rcases h with h | ⟨id, o, cap, cs, e, hF, h⟩
  · exact .inl h
  · exact .inr ⟨id, o, cap, cs, e, hF, h.keep hk (hf _ hF)⟩

theorem wrap_i64 {x : Int} (h : -9223372036854775808 ≤ x) (h' : x < 9223372036854775808) : IntKind.i64.wrap x = x := by
  unfold IntKind.wrap; simp [IntKind.bits, IntKind.signed]; omega
theorem wrap_u32 {x : Int} (h : 0 ≤ x) (h' : x < 4294967296) : IntKind.u32.wrap x = x := by
  unfold IntKind.wrap; simp [IntKind.bits, IntKind.signed]; omega
theorem wrap_u8 {x : Int} (h : 0 ≤ x) (h' : x < 256) : IntKind.u8.wrap x = x := by
  unfold IntKind.wrap; simp [IntKind.bits, IntKind.signed]; omega

theorem findIdx_at {α : Type} {p : α → Bool} {l : List α} {i : Nat} {r : α} (hr : l[i]? = some r) (hp : p r = true) (hno : ∀ j r, j < i → l[j]? = some r → p r = false) : l.findIdx? p = some i := by
  rw [List.findIdx?_eq_some_iff_getElem]
  have hi := (List.getElem?_eq_some_iff.1 hr).1
  refine ⟨hi, by rw [(List.getElem?_eq_some_iff.1 hr).2]; exact hp, fun j hj => ?_⟩
  have := hno j l[j] hj (List.getElem?_eq_getElem (by omega))
  simp [this]

attribute [irreducible] hide
end Ram

/- Tools: append, parts of slices. -/
namespace Ram
open Go

/-- What an object gives. -/
def ldO (o : AO) (off n : Nat) : Option (List V) := match o with
  | .cells _ cs => if off + n ≤ cs.length then some ((cs.drop off).take n) else none
  | _ => none
@[simp] theorem ldO_cells {md : Md} {cs : List V} {off n : Nat} : ldO (.cells md cs) off n = if off + n ≤ cs.length then some ((cs.drop off).take n) else none := nrfl rfl
theorem ldCells_of {H : AH} {id off n : Nat} {o : AO} (h : H.get id = some o) : ldCells H id off n = ldO o off n := by
  unfold ldCells ldO; rw [h]
  cases o <;> rfl
@[simp] theorem ldCells_alloc {H : AH} {id off n : Nat} {o : AO} : ldCells (H.alloc o) id off n = if id = H.next then ldO o off n else ldCells H id off n := by
  split
  · next h => subst h; exact ldCells_of (by rw [AH.get_alloc, if_pos rfl])
  · next h => unfold ldCells; rw [AH.get_alloc, if_neg h]
@[simp] theorem ldCells_set {H : AH} {id i off n : Nat} {o : AO} : ldCells (H.set i o) id off n = if id = i then ldO o off n else ldCells H id off n := by
  split
  · next h => subst h; exact ldCells_of (by rw [AH.get_set, if_pos rfl])
  · next h => unfold ldCells; rw [AH.get_set, if_neg h]
@[simp] theorem ldCells_bump {H : AH} {id m off n : Nat} : ldCells (H.bump m) id off n = ldCells H id off n := by
  unfold ldCells; rw [bump_get]

theorem setF_setF : ∀ (n : Nat) (t : Tr AO) (k : Nat) (x y : AO), k < n → Tr.setF n (Tr.setF n t k x) k y = Tr.setF n t k y
  | 0, _, _, _, _, h => by omega
  | n + 1, .leaf, k, x, y, h => by
    by_cases hk : k = 0
    · simp [Tr.setF, hk]
    · by_cases hp : k % 2 = 1
      · simp only [Tr.setF, if_neg hk, if_pos hp]; rw [setF_setF n .leaf (k / 2) x y (by omega)]
      · simp only [Tr.setF, if_neg hk, if_neg hp]; rw [setF_setF n .leaf (k / 2 - 1) x y (by omega)]
  | n + 1, .node l v r, k, x, y, h => by
    by_cases hk : k = 0
    · simp [Tr.setF, hk]
    · by_cases hp : k % 2 = 1
      · simp only [Tr.setF, if_neg hk, if_pos hp]; rw [setF_setF n l (k / 2) x y (by omega)]
      · simp only [Tr.setF, if_neg hk, if_neg hp]; rw [setF_setF n r (k / 2 - 1) x y (by omega)]
@[simp] theorem AH.set_set {H : AH} {i : Nat} {a b : AO} : (H.set i a).set i b = H.set i b := by
  show AH.mk H.next ((H.t.set i a).set i b) = AH.mk H.next (H.t.set i b)
  rw [show (H.t.set i a).set i b = H.t.set i b from setF_setF (i + 1) H.t i a b (by omega)]
@[simp] theorem AH.alloc_set {H : AH} {i : Nat} {a b : AO} (h : H.next = i) : (H.alloc a).set i b = H.alloc b := by
  subst h
  show AH.mk (H.next + 1) ((H.t.set H.next a).set H.next b) = AH.mk (H.next + 1) (H.t.set H.next b)
  rw [show (H.t.set H.next a).set H.next b = H.t.set H.next b from setF_setF (H.next + 1) H.t H.next a b (by omega)]

@[simp] theorem splice_zero_nil {cs : List V} : splice cs 0 [] = cs := by simp [splice]
@[simp] theorem splice_zero_cons {a x : V} {cs vs : List V} : splice (a :: cs) 0 (x :: vs) = x :: splice cs 0 vs := by simp [splice]
@[simp] theorem splice_succ {a : V} {cs vs : List V} {n : Nat} : splice (a :: cs) (n + 1) vs = a :: splice cs n vs := by
  simp [splice, Nat.succ_add]

attribute [simp] wrap_i64 wrap_u32 wrap_u8

/-- An append of values. -/
def appendV (es bytes : Nat) (x y : V) (H : AH) : Option (V × AH) := aact (.append es bytes (.t 0) (.t 1)) ((Tr.leaf.set 0 x).set 1 y) H
/-- What holds behind an append. -/
def AppP (es bytes : Nat) (x y : V) (H : AH) (K : V → AH → Prop) : Prop := match appendV es bytes x y H with
  | some (v, H') => K v H'
  | none => False

theorem appendV_eq {es bytes : Nat} {x y : X} {env : Env} {H : AH} {a b : V} (hx : x.ev env = some a) (hy : y.ev env = some b) : aact (.append es bytes x y) env H = appendV es bytes a b H := by
  unfold appendV
  have e0 : (X.t 0).ev ((Tr.leaf.set 0 a).set 1 b) = some a := by simp
  have e1 : (X.t 1).ev ((Tr.leaf.set 0 a).set 1 b) = some b := by simp
  simp only [aact, hx, hy, e0, e1]

theorem AppP.mono {es bytes : Nat} {x y : V} {H : AH} {K K' : V → AH → Prop} (h : AppP es bytes x y H K) (hk : ∀ v H', K v H' → K' v H') : AppP es bytes x y H K' := by
  unfold AppP at h ⊢
  split at h
  · exact hk _ _ h
  · exact h.elim

/-- An append, of values that may be there. -/
def appP (es bytes : Nat) (a b : Option V) (H : AH) (K : V → AH → Prop) : Prop := match a, b with
  | some a, some b => AppP es bytes a b H K
  | _, _ => False
@[simp] theorem appP_some {es bytes : Nat} {a b : V} {H : AH} {K : V → AH → Prop} : appP es bytes (some a) (some b) H K = AppP es bytes a b H K := nrflP rfl
@[simp ↓ high] theorem aop1_append {P : Program} {W0 : World} {Q : AExit → Env → AH → Prop} {env : Env} {H : AH} {K : V → AH → Prop} {es bytes : Nat} {x y : X} : aop1 P W0 Q (.act (.append es bytes x y)) env H K = appP es bytes (x.ev env) (y.ev env) H K := by
  show (match aact (.append es bytes x y) env H with
    | some (v, H') => K v H'
    | none => False) = _
  cases hx : x.ev env with
  | none => simp only [aact, hx, appP]
  | some a => cases hy : y.ev env with
    | none => simp only [aact, hx, hy, appP]
    | some b => simp only [appendV_eq hx hy, appP]; rfl

/-- What is owned behind a call: what was owned, and what is new. -/
def Up (F : Nat → Prop) (H H' : AH) : Nat → Prop := fun i => F i ∨ (H.next ≤ i ∧ i < H'.next)

theorem app_row {H : AH} {es bytes : Nat} {v y : V} {rows : List (List V)} {r : List V} {F : Nat → Prop} (hs : SlV H .rw es v rows F) (hy : newCells H es y = some (1, r)) (hr : r.length = es)
    (hb : (rows.length + 1) * bytes ≤ 140737488355328) (hb' : rows.length + 1 ≤ 9223372036854775807) :
    AppP es bytes v y H fun v' H' => SlV H' .rw es v' (rows ++ [r]) (Up F H H') ∧ Keeps F H H' := by
  have e0 : (X.t 0).ev ((Tr.leaf.set 0 v).set 1 y) = some v := by simp
  have e1 : (X.t 1).ev ((Tr.leaf.set 0 v).set 1 y) = some y := by simp
  unfold AppP appendV
  rcases hs with ⟨rfl, e, rfl⟩ | ⟨id, o, cap, cs, rfl, hF, hs⟩
  · simp only [aact, e0, e1, hy, Nat.zero_add]
    simp only [List.length_nil, Nat.zero_add] at hb hb'
    rw [if_pos ⟨hb, hb'⟩]
    simp only [Nat.one_ne_zero, if_false]
    refine ⟨.inr ⟨H.next, 0, 1, r, rfl, .inr ⟨Nat.le_refl _, by simp⟩, ?_⟩, Keeps.alloc⟩
    have := SlAt.of (H := H.alloc (.cells .rw r)) (md := .rw) (es := es) (id := H.next) (o := 0) (cap := 1) (rows := [r]) (A := []) (B := []) (by simp) (by simp) (by simp [hr]) rfl (by simp) (by simp)
    simpa using this
  · simp only [aact, e0, e1, hy]
    rw [if_pos ⟨hb, hb'⟩]
    simp only [ne_eq, not_true_eq_false, if_false, Nat.one_ne_zero, hs.get, if_true]
    rw [if_neg (by decide)]
    obtain ⟨A, B, hcs, hA, hB⟩ := hs.parts
    have hle := hs.le
    have hfit := hs.fit
    have hfl := flatten_length hs.each
    have each' : ∀ x ∈ rows ++ [r], x.length = es := by
      intro x hx
      rcases List.mem_append.1 hx with hx | hx
      · exact hs.each x hx
      · simp only [List.mem_singleton] at hx; subst hx; exact hr
    by_cases hroom : rows.length + 1 ≤ cap
    · have hm : (rows.length + 1) * es ≤ cap * es := Nat.mul_le_mul_right _ hroom
      rw [if_pos hroom, if_pos (by omega)]
      have hBl : es ≤ B.length := by rw [hB]; exact Nat.le_trans (by simp) (Nat.mul_le_mul_right es (show 1 ≤ cap - rows.length by omega))
      have hsp : splice cs (o + rows.length * es) r = A ++ (rows ++ [r]).flatten ++ B.drop es := by
        rw [hcs, splice_parts (by rw [List.length_append, hA, hfl]), hr]; simp
      refine ⟨.inr ⟨id, o, cap, _, by simp, .inl hF, SlAt.of (A := A) (B := B.drop es) (by rw [AH.get_set, if_pos rfl, hsp]) hs.lt each' hA ?_ (by simp; omega)⟩, Keeps.set fun _ => hF⟩
      rw [List.length_drop, hB, List.length_append, List.length_singleton, ← Nat.sub_sub, Nat.sub_mul (cap - rows.length), Nat.one_mul]
    · have hcap : rows.length = cap := by omega
      rw [if_neg hroom, if_pos (by rw [hcap]; exact hfit)]
      refine ⟨.inr ⟨H.next, 0, rows.length + 1, cs.drop o ++ r, by simp, .inr ⟨Nat.le_refl _, by simp⟩, ?_⟩, Keeps.alloc' (Keeps.set fun _ => hF)⟩
      have hB0 : B = [] := List.eq_nil_of_length_eq_zero (by rw [hB, hcap, Nat.sub_self, Nat.zero_mul])
      have hd : cs.drop o ++ r = [] ++ (rows ++ [r]).flatten ++ [] := by
        rw [hcs, hB0, ← hA]; simp
      rw [hd]
      exact SlAt.of (by rw [AH.get_alloc]; exact if_pos rfl) (by simp) each' rfl (by simp) (by simp)

theorem Keeps.then {F G : Nat → Prop} {H₁ H₂ H₃ : AH} (h : Keeps F H₁ H₂) (k : Keeps G H₂ H₃) (hf : ∀ i, i < H₁.next → G i → F i) : Keeps F H₁ H₃ :=
  ⟨Nat.le_trans h.next k.next, fun i hi hn => (k.get i (Nat.lt_of_lt_of_le hi h.next) fun hg => hn (hf i hi hg)).trans (h.get i hi hn)⟩

theorem Up.not {F : Nat → Prop} {H H' : AH} {i : Nat} (h : ¬ F i) (hi : i < H.next) : ¬ Up F H H' i := by
  rintro (h' | h')
  · exact h h'
  · omega

theorem flatten_cell {es : Nat} : ∀ {rows : List (List V)} {i j : Nat} {r : List V}, (∀ r ∈ rows, r.length = es) → rows[i]? = some r → j < es → rows.flatten[i * es + j]? = r[j]?
  | [], i, j, r, _, h, _ => by simp at h
  | x :: l, i, j, r, he, h, hj => by
    have hx : x.length = es := he x (by simp)
    cases i with
    | zero => simp at h; subst h; rw [List.flatten_cons, Nat.zero_mul, Nat.zero_add, List.getElem?_append_left (by omega)]
    | succ i =>
      simp at h
      rw [List.flatten_cons, List.getElem?_append_right (by rw [Nat.add_mul]; omega), show (i + 1) * es + j - x.length = i * es + j by rw [hx, Nat.add_mul]; omega]
      exact flatten_cell (fun r hr => he r (by simp [hr])) h hj

theorem SlAt.cell {H : AH} {md : Md} {es id o cap : Nat} {rows : List (List V)} {cs : List V} (h : SlAt H md es id o cap rows cs) {i j : Nat} {r : List V} (hr : rows[i]? = some r) (hj : j < es) : cs[o + i * es + j]? = r[j]? := by
  obtain ⟨A, B, hcs, hA, hB⟩ := h.parts
  have hi : i < rows.length := (List.getElem?_eq_some_iff.1 hr).1
  have h1 : (i + 1) * es ≤ rows.length * es := Nat.mul_le_mul_right _ hi
  rw [Nat.add_mul] at h1
  have hl := flatten_length h.each
  rw [hcs, List.append_assoc, List.getElem?_append_right (by omega), List.getElem?_append_left (by omega), ← flatten_cell h.each hr hj]
  congr 1; omega

theorem SlV.mono {H : AH} {md : Md} {es : Nat} {v : V} {rows : List (List V)} {F F' : Nat → Prop} (h : SlV H md es v rows F) (hf : ∀ i, F i → F' i) : SlV H md es v rows F' := by
  rcases h with h | ⟨id, o, cap, cs, e, hF, h⟩
  · exact .inl h
  · exact .inr ⟨id, o, cap, cs, e, hf _ hF, h⟩

theorem SlAt.drop {H : AH} {md : Md} {es id o cap : Nat} {rows : List (List V)} {cs : List V} (h : SlAt H md es id o cap rows cs) {k : Nat} (hk : k ≤ rows.length) : SlAt H md es id (o + k * es) (cap - k) (rows.drop k) cs := by
  obtain ⟨A, B, hcs, hA, hB⟩ := h.parts
  have hle := h.le
  have hl : (rows.take k).flatten.length = k * es := by
    rw [flatten_length fun x hx => h.each x (List.mem_of_mem_take hx), List.length_take, Nat.min_eq_left hk]
  have e : cs = (A ++ (rows.take k).flatten) ++ (rows.drop k).flatten ++ B := by
    rw [hcs, List.append_assoc A (rows.take k).flatten, ← List.flatten_append, List.take_append_drop]
  have hg := h.get
  rw [e] at hg ⊢
  refine SlAt.of hg h.lt (fun x hx => h.each x (List.mem_of_mem_drop hx)) (by rw [List.length_append, hA, hl]) ?_ (by rw [List.length_drop]; omega)
  rw [hB, List.length_drop]; congr 1; omega
theorem app_rows {H : AH} {es bytes : Nat} {v y : V} {rows ys : List (List V)} {F : Nat → Prop} (hs : SlV H .rw es v rows F) (hy : newCells H es y = some (ys.length, ys.flatten)) (hr : ∀ r ∈ ys, r.length = es)
    (hb : (rows.length + ys.length) * bytes ≤ 140737488355328) (hb' : rows.length + ys.length ≤ 9223372036854775807) (hfull : ∀ e a n cap, v = .sl e a n cap → rows.length + ys.length ≤ cap ∨ rows.length = cap) :
    AppP es bytes v y H fun v' H' => SlV H' .rw es v' (rows ++ ys) (Up F H H') ∧ Keeps F H H' := by
  have e0 : (X.t 0).ev ((Tr.leaf.set 0 v).set 1 y) = some v := by simp
  have e1 : (X.t 1).ev ((Tr.leaf.set 0 v).set 1 y) = some y := by simp
  have hyl := flatten_length hr
  unfold AppP appendV
  by_cases hz : ys.length = 0
  · have : ys = [] := List.eq_nil_of_length_eq_zero hz
    subst this
    have hk : Keeps F H H := Keeps.refl
    rw [List.append_nil]
    rcases hs with ⟨rfl, e, rfl⟩ | ⟨id, o, cap, cs, rfl, hF, hs⟩
    · simp only [aact, e0, e1, hy, List.length_nil]
      rw [if_pos (by simp)]
      simp only [if_true]
      exact ⟨.inl ⟨rfl, _, rfl⟩, hk⟩
    · simp only [aact, e0, e1, hy, List.length_nil]
      rw [if_pos ⟨hb, hb'⟩]
      simp only [ne_eq, not_true_eq_false, if_false, if_true]
      exact ⟨.inr ⟨id, o, cap, cs, rfl, .inl hF, hs⟩, hk⟩
  rcases hs with ⟨rfl, e, rfl⟩ | ⟨id, o, cap, cs, rfl, hF, hs⟩
  · simp only [aact, e0, e1, hy, Nat.zero_add]
    simp only [List.length_nil, Nat.zero_add] at hb hb'
    rw [if_pos ⟨hb, hb'⟩]
    simp only [hz, if_false]
    refine ⟨.inr ⟨H.next, 0, ys.length, ys.flatten, by simp, .inr ⟨Nat.le_refl _, by simp⟩, ?_⟩, Keeps.alloc⟩
    have := SlAt.of (H := H.alloc (.cells .rw ys.flatten)) (md := .rw) (es := es) (id := H.next) (o := 0) (cap := ys.length) (rows := ys) (A := []) (B := []) (by simp) (by simp) hr rfl (by simp) (by simp)
    simpa using this
  · simp only [aact, e0, e1, hy]
    rw [if_pos ⟨hb, hb'⟩]
    simp only [ne_eq, not_true_eq_false, if_false, hz, hs.get]
    rw [if_neg (by decide)]
    obtain ⟨A, B, hcs, hA, hB⟩ := hs.parts
    have hle := hs.le
    have hfit := hs.fit
    have hfl := flatten_length hs.each
    have each' : ∀ x ∈ rows ++ ys, x.length = es := by
      intro x hx
      rcases List.mem_append.1 hx with hx | hx
      · exact hs.each x hx
      · exact hr x hx
    by_cases hroom : rows.length + ys.length ≤ cap
    · have hm : (rows.length + ys.length) * es ≤ cap * es := Nat.mul_le_mul_right _ hroom
      rw [if_pos hroom, if_pos (by omega)]
      have hsp : splice cs (o + rows.length * es) ys.flatten = A ++ (rows ++ ys).flatten ++ B.drop (ys.length * es) := by
        rw [hcs, splice_parts (by rw [List.length_append, hA, hfl]), hyl]; simp
      refine ⟨.inr ⟨id, o, cap, _, by simp, .inl hF, SlAt.of (A := A) (B := B.drop (ys.length * es)) (by rw [AH.get_set, if_pos rfl, hsp]) hs.lt each' hA ?_ (by simp; omega)⟩, Keeps.set fun _ => hF⟩
      rw [List.length_drop, hB, List.length_append, ← Nat.sub_sub, Nat.sub_mul (cap - rows.length)]
    · rw [if_neg hroom]
      by_cases hcap : rows.length = cap
      · rw [if_pos (by rw [hcap]; exact hfit)]
        refine ⟨.inr ⟨H.next, 0, rows.length + ys.length, cs.drop o ++ ys.flatten, by simp, .inr ⟨Nat.le_refl _, by simp⟩, ?_⟩, Keeps.alloc' (Keeps.set fun _ => hF)⟩
        have hB0 : B = [] := List.eq_nil_of_length_eq_zero (by rw [hB, hcap, Nat.sub_self, Nat.zero_mul])
        have hd : cs.drop o ++ ys.flatten = [] ++ (rows ++ ys).flatten ++ [] := by
          rw [hcs, hB0, ← hA]; simp
        rw [hd]
        exact SlAt.of (by rw [AH.get_alloc]; exact if_pos rfl) (by simp) each' rfl (by simp) (by simp)
      · rcases hfull _ _ _ _ rfl with h | h
        · exact (hroom h).elim
        · exact (hcap h).elim

/-- No room behind it. -/
def Full (v : V) : Prop := ∀ e a n cap, v = .sl e a n cap → n = cap

theorem app_nil {H : AH} {es e bytes : Nat} {y : V} {ys : List (List V)} (hy : newCells H es y = some (ys.length, ys.flatten)) (hr : ∀ r ∈ ys, r.length = es)
    (hb : ys.length * bytes ≤ 140737488355328) (hb' : ys.length ≤ 9223372036854775807) :
    AppP es bytes (.sl e none 0 0) y H fun v' H' => SlV H' .rw es v' ys (Up NoId H H') ∧ Grows H H' ∧ Full v' := by
  have h := app_rows (H := H) (es := es) (bytes := bytes) (v := .sl e none 0 0) (y := y) (rows := []) (ys := ys) (F := NoId) (.inl ⟨rfl, _, rfl⟩) hy hr (by simpa using hb) (by simpa using hb') (fun e a n cap he => by cases he; right; rfl)
  have e0 : (X.t 0).ev ((Tr.leaf.set 0 (V.sl e none 0 0)).set 1 y) = some (V.sl e none 0 0) := by simp
  have e1 : (X.t 1).ev ((Tr.leaf.set 0 (V.sl e none 0 0)).set 1 y) = some y := by simp
  unfold AppP appendV at h ⊢
  simp only [aact, e0, e1, hy, Nat.zero_add] at h ⊢
  rw [if_pos ⟨hb, hb'⟩] at h ⊢
  by_cases hz : ys.length = 0
  · simp only [hz, if_true] at h ⊢
    exact ⟨by simpa using h.1, h.2, fun e a n cap he => by cases he; rfl⟩
  · simp only [hz, if_false] at h ⊢
    exact ⟨by simpa using h.1, h.2, fun e a n cap he => by cases he; rfl⟩

theorem newCells_of {H : AH} {md : Md} {es : Nat} {v : V} {rows : List (List V)} {F : Nat → Prop} (hs : SlV H md es v rows F) : newCells H es v = some (rows.length, rows.flatten) := by
  rcases hs with ⟨rfl, e, rfl⟩ | ⟨id, o, cap, cs, rfl, hF, hs⟩
  · rfl
  · have h2 : rows.length * es ≤ cap * es := Nat.mul_le_mul_right _ hs.le
    have hfit := hs.fit
    simp only [newCells, if_true, ldCells, hs.get]
    rw [if_pos (by omega), hs.flat]

theorem SlAt.take {H : AH} {md : Md} {es id o cap : Nat} {rows : List (List V)} {cs : List V} (h : SlAt H md es id o cap rows cs) (k : Nat) : SlAt H md es id o cap (rows.take k) cs := by
  refine ⟨h.get, h.lt, Nat.le_trans (by simp; omega) h.le, h.fit, ?_, fun x hx => h.each x (List.mem_of_mem_take hx)⟩
  have hl := flatten_length (rows := rows.take k) fun x hx => h.each x (List.mem_of_mem_take hx)
  have hle : (rows.take k).length * es ≤ rows.length * es := Nat.mul_le_mul_right _ (by simp; omega)
  rw [← Nat.min_eq_left hle, ← List.take_take, h.flat]
  have : rows.flatten = (rows.take k).flatten ++ (rows.drop k).flatten := by rw [← List.flatten_append, List.take_append_drop]
  rw [this, ← hl, List.take_left]
end Ram

/- What holds behind a piece may be weakened; code is cut. -/
namespace Ram
open Go
variable {P : Program} {W0 : World}

theorem aop1_mono {Q Q' : AExit → Env → AH → Prop} {op : AOp} {env : Env} {H : AH} {K K' : V → AH → Prop} (hq : ∀ v H, Q (.pan v) .leaf H → Q' (.pan v) .leaf H) (hk : ∀ v H, K v H → K' v H) (h : aop1 P W0 Q op env H K) : aop1 P W0 Q' op env H K' := by
  have hafter : ∀ e H, after Q K e H → after Q' K' e H := by
    intro e H h
    cases e with
    | ret v => exact hk _ _ h
    | pan v => exact hq _ _ h
  unfold aop1 at h ⊢
  cases op with
  | call f xs => simp only at h ⊢; split at h <;> first | exact h.mono hafter | exact h.elim
  | callV g xs => simp only at h ⊢; split at h <;> first | exact h.mono hafter | exact h.elim
  | pan x => simp only at h ⊢; split at h <;> first | exact hq _ _ h | exact h.elim
  | pure o => simp only at h ⊢; split at h <;> first | exact hk _ _ h | exact h.elim
  | read o => simp only at h ⊢; split at h <;> first | exact hk _ _ h | exact h.elim
  | alloc o => simp only at h ⊢; split at h <;> first | exact hk _ _ h | exact h.elim
  | act o => simp only at h ⊢; split at h <;> first | exact hk _ _ h | exact h.elim

theorem aops_mono {Q Q' : AExit → Env → AH → Prop} (hq : ∀ e env H, Q e env H → Q' e env H) : ∀ {l : List AOper} {env : Env} {H : AH}, aops P W0 Q l env H → aops P W0 Q' l env H
  | [], _, _, h => hq _ _ _ h
  | o :: r, env, H, h => by
    unfold aops at h ⊢
    split at h
    · next hg => exact aop1_mono (fun v H h => hq _ _ _ h) (fun v H h => aops_mono hq h) h
    · exact aops_mono hq h
    · exact h.elim

theorem ditems_mono {base : Nat} {H : AH} : ∀ {l : List DItem} {env : Env} {pend : Pend} {K K' : Env → Pend → Prop}, (∀ env pend, K env pend → K' env pend) → ditems base H l env pend K → ditems base H l env pend K'
  | [], _, _, _, _, hk, h => hk _ _ h
  | ⟨i, o, hh⟩ :: r, env, pend, K, K', hk, h => by
    unfold ditems at h ⊢
    split at h
    · split at h
      · split at h <;> first | exact ditems_mono hk h | exact h.elim
      · split at h <;> first | exact ditems_mono hk h | exact h.elim
      · split at h <;> first | exact ditems_mono hk h | exact h.elim
      · exact h.elim
    · exact ditems_mono hk h
    · exact h.elim

theorem dstages_mono {Q Q' : AExit → Env → AH → Prop} (hq : ∀ e env H, Q e env H → Q' e env H) {base : Nat} : ∀ {l : List DStage} {k : Nat} {env : Env} {H : AH} {pend : Pend}, dstages P W0 Q base l k env H pend → dstages P W0 Q' base l k env H pend
  | [], _, _, _, _, h => h
  | s :: r, k, env, H, pend, h => by
    unfold dstages at h ⊢
    refine ⟨h.1, ditems_mono (fun env pend h => ?_) h.2⟩
    split at h
    · exact hq _ _ _ h
    · split at h
      · exact aop1_mono (fun v H h => hq _ _ _ h) (fun v H h => dstages_mono hq h) h
      · exact dstages_mono hq h
      · exact h.elim

theorem thenQ_mono {K K' : Env → AH → Prop} {Q Q' : AExit → Env → AH → Prop} (hk : ∀ env H, K env H → K' env H) (hq : ∀ e env H, Q e env H → Q' e env H) : ∀ e env H, thenQ K Q e env H → thenQ K' Q' e env H := by
  intro e env H h
  cases e with
  | normal => exact hk _ _ h
  | exit i => exact hq _ _ _ h
  | ret => exact hq _ _ _ h
  | pan v => exact hq _ _ _ h

theorem awp_mono : ∀ {c : ACode} {Q Q' : AExit → Env → AH → Prop} {env : Env} {H : AH}, (∀ e env H, Q e env H → Q' e env H) → awp P W0 c Q env H → awp P W0 c Q' env H := by
  intro c
  induction c with
  | skip => intro Q Q' env H hq h; exact hq _ _ _ h
  | reg ops => intro Q Q' env H hq h; exact aops_mono hq h
  | draw m l => intro Q Q' env H hq h; exact dstages_mono hq h
  | seq x y ihx ihy => intro Q Q' env H hq h; exact ihx (thenQ_mono (fun env H h => ihy hq h) hq) h
  | cond c x y ihx ihy =>
    intro Q Q' env H hq h
    simp only [awp] at h ⊢
    split at h
    · exact ihx hq h
    · exact ihy hq h
    · exact h.elim
  | block id x ih =>
    intro Q Q' env H hq h
    refine ih (fun e env H h => ?_) h
    cases e with
    | exit i =>
      simp only [inBlk] at h ⊢
      split at h
      · next hi => rw [if_pos hi]; exact hq _ _ _ h
      · next hi => rw [if_neg hi]; exact hq _ _ _ h
    | normal => exact hq _ _ _ h
    | ret => exact hq _ _ _ h
    | pan v => exact hq _ _ _ h
  | loop x ih =>
    intro Q Q' env H hq h
    obtain ⟨I, n, h0, hr⟩ := h
    exact ⟨I, n, h0, fun n env H hI => ih (thenQ_mono (fun _ _ h => h) hq) (hr n env H hI)⟩
  | rangeF g f k =>
    intro Q Q' env H hq h
    simp only [awp] at h ⊢
    split at h
    · obtain ⟨env', hsub, h⟩ := h
      refine ⟨env', hsub, h.mono fun e H' h => ?_⟩
      cases e with
      | pan v => exact hq _ _ _ h
      | ret v =>
        simp only [ranE, ranQ] at h ⊢
        split at h
        · exact h.elim
        · exact hq _ _ _ h
        · exact hq _ _ _ h
        · exact hq _ _ _ h
        · exact h.elim
    · exact h.elim
  | exit id => intro Q Q' env H hq h; exact hq _ _ _ h
  | ret => intro Q Q' env H hq h; exact hq _ _ _ h

theorem awp_assoc {a b c : ACode} {Q : AExit → Env → AH → Prop} {env : Env} {H : AH} : awp P W0 (.seq a (.seq b c)) Q env H = awp P W0 (.seq (.seq a b) c) Q env H := by
  have e : thenQ (fun env H => awp P W0 (.seq b c) Q env H) Q = thenQ (fun env H => awp P W0 b (thenQ (fun env H => awp P W0 c Q env H) Q) env H) (thenQ (fun env H => awp P W0 c Q env H) Q) := by
    funext e env H
    cases e <;> rfl
  show awp P W0 a (thenQ (fun env H => awp P W0 (.seq b c) Q env H) Q) env H = awp P W0 a _ env H
  rw [e]

/-- Behind a call that answers this. -/
theorem ACalls.next {f : FuncId} {args : List V} {H : AH} {x : V} {R : AH → Prop} {Q : AEnd → AH → Prop} (h : ACalls P W0 f args H fun e H' => e = .ret x ∧ R H') (k : ∀ H', R H' → Q (.ret x) H') : ACalls P W0 f args H Q :=
  h.mono fun e H' h => by obtain ⟨he, h⟩ := h; rw [he]; exact k H' h
/-- Behind a call that answers something. -/
theorem ACalls.some {α : Type} {f : FuncId} {args : List V} {H : AH} {x : α → V} {R : α → AH → Prop} {Q : AEnd → AH → Prop} (h : ACalls P W0 f args H fun e H' => ∃ a, e = .ret (x a) ∧ R a H') (k : ∀ a H', R a H' → Q (.ret (x a)) H') : ACalls P W0 f args H Q :=
  h.mono fun e H' h => by obtain ⟨a, he, h⟩ := h; rw [he]; exact k a H' h

/-- What is to be shown at a place: not looked into. -/
def hold [b : Box (Env → AH → Prop)] (env : Env) (H : AH) : Prop := b.val env H
theorem hold_mk {I : Env → AH → Prop} {env : Env} {H : AH} (h : I env H) : @hold ⟨I⟩ env H := h

/-- What a call is to end with: not looked into. -/
def fin [b : Box (AEnd → AH → Prop)] (e : AEnd) (H : AH) : Prop := b.val e H
theorem fin_mk {R : AEnd → AH → Prop} {e : AEnd} {H : AH} (h : R e H) : @fin ⟨R⟩ e H := h
theorem acalls_in {f : FuncId} {n : Nat} {code : ACode} {res : List ARes} {args : List V} {H : AH} {R : AEnd → AH → Prop} (hc : compFn P f = some ⟨n, code, res⟩) (hl : args.length ≤ n) (h : awp P W0 code (@hide _ ⟨(bodyQ res (@hide _ ⟨fun e H => @fin ⟨R⟩ e H⟩))⟩) (initEnv 0 args .leaf) H) : ACalls P W0 f args H R :=
  acalls_by (R := fun e H => @fin ⟨R⟩ e H) hc hl h

/-- Cut behind the first piece: what holds there. -/
theorem awp_cut {x y : ACode} {Q : AExit → Env → AH → Prop} {env : Env} {H : AH} (I : Env → AH → Prop) (h1 : awp P W0 x (@hide _ ⟨thenQ (fun env H => @hold ⟨I⟩ env H) Q⟩) env H) (h2 : ∀ env H, I env H → awp P W0 y Q env H) : awp P W0 (.seq x y) Q env H :=
  awp_mono (c := x) (thenQ_mono h2 fun _ _ _ h => h) (by unfold hide at h1; exact h1)

/-- A loop: what holds at its head; a number that falls. -/
theorem awp_round {x : ACode} {Q : AExit → Env → AH → Prop} {env : Env} {H : AH} (I : Nat → Env → AH → Prop) (n : Nat) (h0 : I n env H) (hr : ∀ n env H, I n env H → awp P W0 x (@hide _ ⟨thenQ (fun env H => @hold ⟨fun env H => ∃ m, m < n ∧ I m env H⟩ env H) Q⟩) env H) : awp P W0 (.loop x) Q env H :=
  ⟨I, n, h0, fun n env H h => by have := hr n env H h; unfold hide at this; exact this⟩
attribute [irreducible] hold fin
end Ram

/- From the abstract machine to the model: a law of plain values. -/
namespace Ram
open Go Go.ChangeShapes
open Go.RowKit (Below Grown)

def AH.none : AH := ⟨0, .leaf⟩
theorem rel_none {P : Program} (W : World) (ι : Inj) : Rel P W ι (fun _ => False) AH.none W := by
  have h : ∀ i o, AH.none.get i = some o → False := fun i o h => by cases h
  exact ⟨fun i o g => (h i o g).elim, fun i o g => (h i o g).elim, fun _ g => g.elim, fun i o g => (h i o g).elim, fun i j o u g => (h i o g).elim, fun i o g => (h i o g).elim, fun _ g => g.elim, Below.refl _ _⟩

/-- The walk of a law of plain values. -/
theorem walk_of {P : Program} {f : FuncId} {args : List V} {cs : List Value} {W : World} (h : ACalls P W f args AH.none fun e _ => e = .ret (.b true)) (hv : ∀ ι : Inj, RVs ι (fun _ => False) args cs) :
    Calls P f cs.toArray W fun e w' => e = .returned (.bool true) ∧ Below W.heap.size W w' :=
  (h.2 (fun _ => ⟨0, 0, 0⟩) _ W cs (hv _) (rel_none W _)).mono fun e w' ⟨ae, ι', D', H', g1, g2, g3, _⟩ => by
    subst g1
    obtain ⟨c, rfl, r⟩ := g2
    cases r
    exact ⟨rfl, g3.below⟩

variable {P : Program} {H : Type} {enc : TypeId × Value → H}
/-- The row's end: what was there ahead of the call is as it was. -/
theorem post_below {f : Func} {s : ChangeSpec} {apart fresh handsOn again : Bool} {W W' : World} {args : Array Value} {v : Value} {ds gs : List (DataW H)} {before pa pv : List MemPlace}
    (hW : DataW.Whole enc P f.params.toList s.vars apart W args.toList ds gs before)
    (hres : ∀ (b : Nat) (sp : Nat → Bool) (hd : Bool), DataW.TrodAll enc P W' b sp hd f.resultTypes.toList (v.resultList f.resultTypes.size) (s.fn H (ds ++ gs)).results [])
    (hargs : ∀ sp : Nat → Bool, (∀ p ∈ before, sp p.block = true) → DataW.TrodAll enc P W' 0 sp true f.params.toList args.toList (s.fn H (ds ++ gs)).args pa)
    (hvars : ∀ sp : Nat → Bool, (∀ p ∈ before, sp p.block = true) → DataW.TrodVars enc P W' sp s.vars (s.fn H (ds ++ gs)).vars pv)
    (hps : before = pa ++ pv) (hb : Below W.heap.size W W')
    (hok : ∀ (j : Nat) (t : TypeId) (r : Value), f.resultTypes[j]? = some t → (v.resultList f.resultTypes.size)[j]? = some r → Value.okWide P W' .any 0 t r) :
    s.post enc P f apart fresh handsOn again W args v W' := by
  have hold : ∀ p ∈ before, (fun b => decide (b < W.heap.size)) p.block = true := fun p hp => by simpa using hW.lt p hp
  refine ⟨ds, gs, before, [], pa, pv, hW, hres _ _ _, hargs _ hold, hvars _ hold, World.keptBut_mono (fun p hp => ⟨hp, ?_⟩) (hb.frame _), fun _ => ?_⟩
  · rw [hps, List.mem_append] at hp
    exact Or.inr hp
  · have hlt := hW.lt
    obtain ⟨_, _, _, _, _, hz, hn⟩ := hW
    refine ⟨hok, _, _, ([] ++ pa) ++ pv, ⟨[] ++ pa, pv, trodAll_append (hargs _ (fun _ _ => rfl)) (hres _ _ _), hvars _ (fun _ _ => rfl), rfl, ?_, ?_⟩, ?_⟩
    · intro b off hp
      have hin : MemPlace.cell b off ∈ before := by rw [hps]; simpa using hp
      rw [hb.frozen (hlt _ hin)]
      exact hz b off hin
    · intro ha
      have := hn ha
      rw [hps] at this
      simpa using this
    · intro p hp _
      rw [hps]
      simpa using hp
end Ram

/- Arguments: numbers, texts, structs of such, rows of such, rows in these: what they are in the abstract machine. -/
namespace Ram
open Go Go.ChangeShapes
open Go.RowKit (Below)

/-- The kind of a cell: plain, or a row of others. -/
inductive KC where
  | b
  | i (k : IntKind)
  | s
  | sl (ks : List KC)

mutual
/-- A cell of a kind. -/
inductive HasC (H : AH) : KC → V → Prop
  | b (x : Bool) : HasC H .b (.b x)
  | i (k : IntKind) (n : Int) : k.has n → HasC H (.i k) (.i k n)
  | s (l : List UInt8) : l.length ≤ maxLen → HasC H .s (.s l)
  | sl (ks : List KC) (v : V) (rows : List (List V)) : SlV H .ro ks.length v rows (fun _ => True) → HasRs H ks rows → rows.length ≤ maxLen → HasC H (.sl ks) v
/-- Cells of these kinds. -/
inductive HasK (H : AH) : List KC → List V → Prop
  | nil : HasK H [] []
  | cons (k : KC) (v : V) (ks : List KC) (vs : List V) : HasC H k v → HasK H ks vs → HasK H (k :: ks) (v :: vs)
/-- Rows of these kinds. -/
inductive HasRs (H : AH) : List KC → List (List V) → Prop
  | nil (ks : List KC) : HasRs H ks []
  | cons (ks : List KC) (r : List V) (rows : List (List V)) : HasK H ks r → HasRs H ks rows → HasRs H ks (r :: rows)
end

mutual
theorem HasC.grow {H H' : AH} (hg : Grows H H') {k : KC} {v : V} : HasC H k v → HasC H' k v
  | .b x => .b x
  | .i k n h => .i k n h
  | .s l h => .s l h
  | .sl ks v rows h1 h2 h3 => .sl ks v rows (h1.keep hg fun _ _ h => h) (HasRs.grow hg h2) h3
theorem HasK.grow {H H' : AH} (hg : Grows H H') {ks : List KC} {vs : List V} : HasK H ks vs → HasK H' ks vs
  | .nil => .nil
  | .cons k v ks vs h1 h2 => .cons k v ks vs (HasC.grow hg h1) (HasK.grow hg h2)
theorem HasRs.grow {H H' : AH} (hg : Grows H H') {ks : List KC} {rows : List (List V)} : HasRs H ks rows → HasRs H' ks rows
  | .nil ks => .nil ks
  | .cons ks r rows h1 h2 => .cons ks r rows (HasK.grow hg h1) (HasRs.grow hg h2)
end

variable {A : AH}

theorem HasK.append {ks ls : List KC} {vs us : List V} (h : HasK A ks vs) (h' : HasK A ls us) : HasK A (ks ++ ls) (vs ++ us) := by
  induction ks generalizing vs with
  | nil => cases h; exact h'
  | cons k ks ih => cases h with | cons _ v _ vs h1 h2 => exact .cons _ _ _ _ h1 (ih h2)
theorem HasK.length {ks : List KC} {vs : List V} (h : HasK A ks vs) : vs.length = ks.length := by
  induction ks generalizing vs with
  | nil => cases h; rfl
  | cons k ks ih => cases h with | cons _ v _ vs h1 h2 => simp [ih h2]
theorem HasC.one {k : KC} {v : V} (h : HasC A k v) : v.one = true := by
  cases h with
  | sl ks _ rows h1 _ _ => obtain ⟨e, a, c, hv⟩ := h1.len; rw [hv]; rfl
  | _ => rfl
theorem HasK.one {ks : List KC} {vs : List V} (h : HasK A ks vs) : ∀ v ∈ vs, v.one = true := by
  induction ks generalizing vs with
  | nil => cases h; simp
  | cons k ks ih =>
    cases h with
    | cons _ v _ vs h1 h2 =>
      intro u hu
      rcases List.mem_cons.1 hu with rfl | hu
      · exact h1.one
      · exact ih h2 u hu
theorem HasRs.mem {ks : List KC} {rows : List (List V)} (h : HasRs A ks rows) : ∀ r ∈ rows, HasK A ks r := by
  induction rows with
  | nil => simp
  | cons r rows ih =>
    cases h with
    | cons _ _ _ h1 h2 =>
      intro u hu
      rcases List.mem_cons.1 hu with rfl | hu
      · exact h1
      · exact ih h2 u hu
theorem HasRs.snoc {ks : List KC} {rows : List (List V)} {r : List V} (h : HasRs A ks rows) (h' : HasK A ks r) : HasRs A ks (rows ++ [r]) := by
  induction rows with
  | nil => exact .cons _ _ _ h' (.nil _)
  | cons x rows ih => cases h with | cons _ _ _ h1 h2 => exact .cons _ _ _ h1 (ih h2)

def flatFields (P : Program) (g : TypeId → Option (List KC)) : List Field → Nat → Option (List KC)
  | [], _ => some []
  | f :: r, acc => if f.offset = acc then match g f.type with
    | some ks => if P.cellsOf f.type = ks.length then match flatFields P g r (acc + ks.length) with
      | some ls => some (ks ++ ls)
      | none => none else none
    | none => none else none

/-- The kinds of a type's cells, if it has no other ones. -/
def flatKinds (P : Program) : Nat → TypeId → Option (List KC)
  | 0, _ => none
  | n + 1, t => match P.underlying t with
    | some .bool => some [.b]
    | some (.int k) => some [.i k]
    | some .string => some [.s]
    | some (.struct fs) => match flatFields P (flatKinds P n) fs.toList 0 with
      | some ks => if ks.length = P.cellsOf t then some ks else none
      | none => none
    | some (.slice e) => match flatKinds P n e with
      | some ks => if P.cellsOf e = ks.length ∧ 0 < ks.length then some [.sl ks] else none
      | none => none
    | _ => none

variable {P : Program} {H : Type} {enc : TypeId × Value → H} {W w : World} {base : Nat} {sp : Nat → Bool} {hd : Bool} {ι : Inj} {D : Nat → Prop}

/-- All that is there is only read. -/
def AllRo (H : AH) : Prop := ∀ i o, H.get i = some o → ∃ cs, o = .cells .ro cs

theorem add_ro {W : World} {ι : Inj} {D : Nat → Prop} {H : AH} (hR : Rel P W ι D H W) (hro : AllRo H) {b off : Nat} {c : Array Value} {e : TypeId} {fr : Nat × Nat} {vs : List V} (hb : W.heap[b]? = some (.cells c e fr)) (hl : off + vs.length ≤ c.size)
    (h1 : ∀ v ∈ vs, v.one = true) (hv : RVs ι D vs ((c.toList.drop off).take vs.length)) :
    Rel P W (updI ι H.next ⟨b, off, c.size⟩) (fun i => D i ∨ i = H.next) (H.alloc (.cells .ro vs)) W ∧ AllRo (H.alloc (.cells .ro vs)) ∧ Ext ι D (updI ι H.next ⟨b, off, c.size⟩) (fun i => D i ∨ i = H.next) := by
  have hext : Ext ι D (updI ι H.next ⟨b, off, c.size⟩) (fun i => D i ∨ i = H.next) := fun i hi => ⟨.inl hi, by unfold updI; rw [if_neg]; intro e; have := hR.lt i hi; omega⟩
  have hro' : AllRo (H.alloc (.cells .ro vs)) := by
    intro i o ho
    rw [AH.get_alloc] at ho
    split at ho
    · simp only [Option.some.injEq] at ho; exact ⟨vs, ho.symm⟩
    · exact hro i o ho
  have hno : ∀ i o, (H.alloc (.cells .ro vs)).get i = some o → o.owns = true → False := by
    intro i o ho h
    obtain ⟨cs, rfl⟩ := hro' i o ho
    cases h
  have hu : ∀ i, i ≠ H.next → updI ι H.next ⟨b, off, c.size⟩ i = ι i := fun i hi => by unfold updI; rw [if_neg hi]
  have hu0 : updI ι H.next ⟨b, off, c.size⟩ H.next = ⟨b, off, c.size⟩ := by unfold updI; rw [if_pos rfl]
  refine ⟨⟨fun i o ho => ?_, fun i o ho hl => ?_, fun i hi => ?_, fun i o ho => ?_, fun i j o u hi hj h _ _ => (hno i o hi h).elim, fun i o ho h => (hno i o ho h).elim, fun i hi => ?_, hR.below⟩, hro', hext⟩
  · rw [AH.get_alloc] at ho
    split at ho
    · next e' =>
      simp only [Option.some.injEq] at ho; subst ho; subst e'
      rw [hu0]
      refine ⟨c, e, fr, hb, rfl, hl, h1, hv.ext hext, ?_, ?_⟩ <;> intro h <;> cases h
    · next e' =>
      rw [hu i e']
      exact RObj.mono hext (fun _ => rfl) (hR.objs i o ho)
  · rw [AH.get_alloc] at ho
    split at ho
    · next e' => exact .inr e'
    · exact .inl (hR.dom i o ho hl)
  · rw [AH.next_alloc']
    rcases hi with hi | hi
    · have := hR.lt i hi; omega
    · omega
  · rw [AH.next_alloc']
    rw [AH.get_alloc] at ho
    split at ho
    · omega
    · have := hR.get_lt i o ho; omega
  · rcases hi with hi | hi
    · rw [hu i (by have := hR.lt i hi; omega)]; exact hR.inw i hi
    · subst hi; rw [hu0]; exact (Array.getElem?_eq_some_iff.1 hb).1

/-- Cells that are taken over. -/
def Imp (P : Program) (W : World) (ι : Inj) (D : Nat → Prop) (A : AH) (ks : List KC) (cs : List Value) : Prop :=
  ∃ ι' D' A' vs, RVs ι' D' vs cs ∧ HasK A' ks vs ∧ Rel P W ι' D' A' W ∧ AllRo A' ∧ Ext ι D ι' D' ∧ Grows A A'

theorem imp_fields {g : TypeId → Option (List KC)} {tr : TypeId → List Value → Option (DataW H × List MemPlace)} (hg : ∀ t ks cs x ι D A, g t = some ks → tr t cs = some x → Rel P W ι D A W → AllRo A → Imp P W ι D A ks cs) :
    ∀ (l : List Field) (acc : Nat) (ks : List KC) (cs : List Value) (ι : Inj) (D : Nat → Prop) (A : AH), flatFields P g l acc = some ks → (∀ f ∈ l, ∃ x, tr f.type ((cs.drop f.offset).take (P.cellsOf f.type)) = some x) → Rel P W ι D A W → AllRo A →
      Imp P W ι D A ks ((cs.drop acc).take ks.length)
  | [], acc, ks, cs, ι, D, A, h, _, hR, hro => by
    simp only [flatFields, Option.some.injEq] at h; subst h
    exact ⟨ι, D, A, [], by simpa using .nil, .nil, hR, hro, Ext.refl, Keeps.refl⟩
  | f :: r, acc, ks, cs, ι, D, A, h, hm, hR, hro => by
    simp only [flatFields] at h
    split at h
    · next ho =>
      split at h
      · next k1 hk1 =>
        split at h
        · next hl =>
          split at h
          · next ls hls =>
            simp only [Option.some.injEq] at h; subst h
            obtain ⟨x, hx⟩ := hm f (by simp)
            obtain ⟨ι1, D1, A1, v1, p1, p2, p3, p4, p5, p6⟩ := hg _ _ _ _ ι D A hk1 hx hR hro
            obtain ⟨ι2, D2, A2, v2, q1, q2, q3, q4, q5, q6⟩ := imp_fields hg r _ _ cs ι1 D1 A1 hls (fun f hf => hm f (by simp [hf])) p3 p4
            refine ⟨ι2, D2, A2, v1 ++ v2, ?_, (p2.grow q6).append q2, q3, q4, p5.trans q5, p6.trans q6⟩
            rw [ho, hl] at p1
            rw [List.length_append, ← List.take_append_drop k1.length ((cs.drop acc).take (k1.length + ls.length)), List.take_take, Nat.min_eq_left (by omega), List.drop_take, List.drop_drop, Nat.add_sub_cancel_left]
            exact (p1.ext q5).append q1
          · cases h
        · cases h
      · cases h
    · cases h

theorem imp_rows {ks : List KC} {L : List Value} : ∀ (n : Nat) (ι : Inj) (D : Nat → Prop) (A : AH), (∀ i, i < n → ∀ ι D A, Rel P W ι D A W → AllRo A → Imp P W ι D A ks ((L.drop (i * ks.length)).take ks.length)) → Rel P W ι D A W → AllRo A →
    ∃ ι' D' A' rows, rows.length = n ∧ RVs ι' D' rows.flatten (L.take (n * ks.length)) ∧ HasRs A' ks rows ∧ Rel P W ι' D' A' W ∧ AllRo A' ∧ Ext ι D ι' D' ∧ Grows A A'
  | 0, ι, D, A, _, hR, hro => ⟨ι, D, A, [], rfl, by simpa using .nil, .nil _, hR, hro, Ext.refl, Keeps.refl⟩
  | n + 1, ι, D, A, h, hR, hro => by
    obtain ⟨ι1, D1, A1, rows, p0, p1, p2, p3, p4, p5, p6⟩ := imp_rows n ι D A (fun i hi => h i (by omega)) hR hro
    obtain ⟨ι2, D2, A2, v2, q1, q2, q3, q4, q5, q6⟩ := h n (by omega) ι1 D1 A1 p3 p4
    refine ⟨ι2, D2, A2, rows ++ [v2], by simp [p0], ?_, (p2.grow q6).snoc q2, q3, q4, p5.trans q5, p6.trans q6⟩
    rw [List.flatten_append, Nat.add_mul, Nat.one_mul, List.take_add]
    simpa using (p1.ext q5).append q1

theorem addr_add (b off n : Nat) : Addr.add ⟨b, off, none⟩ n = ⟨b, off + n, none⟩ := by
  unfold Addr.add; split <;> simp_all

theorem imp_all (hblk : ∃ (b : Nat) (c : Array Value) (e : TypeId) (fr : Nat × Nat), W.heap[b]? = some (Obj.cells c e fr)) : ∀ (n m : Nat) (t : TypeId) (ks : List KC) (cs : List Value) (x : DataW H × List MemPlace) (ι : Inj) (D : Nat → Prop) (A : AH),
    flatKinds P n t = some ks → DataW.trod enc P W 0 (fun _ => true) true m t cs = some x → Rel P W ι D A W → AllRo A → Imp P W ι D A ks cs
  | 0, _, _, _, _, _, _, _, _, h, _, _, _ => by cases h
  | n + 1, m, t, ks, cs, x, ι, D, A, h, hx, hR, hro => by
    simp only [flatKinds] at h
    split at h
    · next ht =>
      simp only [Option.some.injEq] at h; subst h
      obtain ⟨b, rfl, _⟩ := DataW.trod_bool ht hx
      exact ⟨ι, D, A, [.b b], .cons _ _ _ _ (.b _) .nil, .cons _ _ _ _ (.b _) .nil, hR, hro, Ext.refl, Keeps.refl⟩
    · next k ht =>
      simp only [Option.some.injEq] at h; subst h
      obtain ⟨a, rfl, _, hw⟩ := DataW.trod_int ht hx
      simp only [Lit.wf, Bool.and_eq_true, decide_eq_true_eq] at hw
      exact ⟨ι, D, A, [.i k a], .cons _ _ _ _ (.i _ _) .nil, .cons _ _ _ _ (.i _ _ hw) .nil, hR, hro, Ext.refl, Keeps.refl⟩
    · next ht =>
      simp only [Option.some.injEq] at h; subst h
      obtain ⟨a, rfl, _, hw⟩ := DataW.trod_string ht hx
      exact ⟨ι, D, A, [.s a.data.toList], .cons _ _ _ _ (.s _) .nil, .cons _ _ _ _ (.s _ (by simpa using hw)) .nil, hR, hro, Ext.refl, Keeps.refl⟩
    · next fs ht =>
      split at h
      · next ls hls =>
        split at h
        · next hl =>
          simp only [Option.some.injEq] at h; subst h
          obtain ⟨xs, m', rfl, _, hcl, hxl, hf⟩ := DataW.trod_struct ht hx
          have := imp_fields (W := W) (P := P) (tr := DataW.trod enc P W 0 (fun _ => true) true m') (fun t ks cs x ι D A h1 h2 h3 h4 => imp_all hblk n m' t ks cs x ι D A h1 h2 h3 h4) _ 0 _ cs ι D A hls (fun f hfm => by
            obtain ⟨i, hi⟩ := List.getElem?_of_mem hfm
            rw [Array.getElem?_toList] at hi
            have := hf i f hi
            have hil : i < xs.length := by rw [hxl]; exact (Array.getElem?_eq_some_iff.1 hi).1
            exact ⟨xs[i], by rw [this, List.getElem?_eq_getElem hil]⟩) hR hro
          rwa [List.drop_zero, hl, ← hcl, List.take_length] at this
        · cases h
      · cases h
    · next e ht =>
      split at h
      · next ls hls =>
        split at h
        · next hc =>
          obtain ⟨hc1, hc2⟩ := hc
          simp only [Option.some.injEq] at h; subst h
          rcases DataW.trod_slice ht hx with ⟨rfl, _⟩ | ⟨a, len, cap, elems, rest, m', _, rfl, _, _, hl, hmx, hlen, hel, hsp, _⟩
          · exact ⟨ι, D, A, [.sl 0 none 0 0], .cons _ _ _ _ (.sl0 _) .nil, .cons _ _ _ _ (.sl _ _ [] (.inl ⟨rfl, _, rfl⟩) (.nil _) (by simp)) .nil, hR, hro, Ext.refl, Keeps.refl⟩
          · by_cases hcap : cap = 0
            · obtain ⟨b, c, el, fr, hb⟩ := hblk
              obtain ⟨g1, g2, g3⟩ := add_ro (vs := []) (off := 0) hR hro hb (by simp) (by simp) (by simpa using .nil)
              refine ⟨_, _, _, [.sl ls.length (some (A.next, 0)) len len], .cons _ _ _ _ (RV.sl ls.length A.next 0 a len len cap (.inr rfl) hl hl hmx (.inl hcap)) .nil, .cons _ _ _ _ (.sl _ _ [] (.inr ⟨A.next, 0, 0, [], by simp; omega, trivial, ?_⟩) (.nil _) (by simp)) .nil, g1, g2, g3, Keeps.alloc⟩
              exact ⟨by simp, by simp, by simp, by simp, by simp, by simp⟩
            · -- each element's cells
              have each : ∀ i, i < cap → ∃ x cs, W.cells? 0 (a.add (i * P.cellsOf e)) (P.cellsOf e) = some cs ∧ DataW.trod enc P W 0 (fun _ => true) true m' e cs = some x := by
                intro i hi
                by_cases hil : i < len
                · have := hel i hil
                  rw [List.getElem?_eq_getElem (by omega), Option.bind_eq_some_iff] at this
                  obtain ⟨cs, g1, g2⟩ := this
                  exact ⟨_, cs, g1, g2⟩
                · obtain ⟨hr1, hr2⟩ := hsp rfl
                  have := hr2 (i - len) (by omega)
                  rw [show len + (i - len) = i by omega, List.getElem?_eq_getElem (by omega), Option.bind_eq_some_iff] at this
                  obtain ⟨cs, g1, g2⟩ := this
                  exact ⟨_, cs, g1, g2⟩
              obtain ⟨b, off, spot⟩ := a
              -- the row
              have hrow : spot = none ∧ ∃ c el fr, W.heap[b]? = some (.cells c el fr) := by
                obtain ⟨x0, cs0, q1, _⟩ := each 0 (by omega)
                obtain ⟨_, q2, q3⟩ := World.cells?_some q1
                have q4 := q3 0 (by omega)
                rw [List.getElem?_eq_getElem (by omega)] at q4
                simp only [Nat.zero_mul, Addr.add, if_true] at q4
                unfold World.cell? at q4
                simp only at q4
                split at q4
                · next c el fr hb =>
                  refine ⟨?_, c, el, fr, hb⟩
                  cases spot with
                  | none => rfl
                  | some _ => simp at q4
                · cases q4
              obtain ⟨rfl, c, el, fr, hb⟩ := hrow
              have cells_eq : ∀ i cs, W.cells? 0 (Addr.add ⟨b, off, none⟩ (i * P.cellsOf e)) (P.cellsOf e) = some cs → cs = (c.toList.drop (off + i * ls.length)).take ls.length ∧ off + i * ls.length + ls.length ≤ c.size := by
                intro i cs hcs
                obtain ⟨_, g1, g2⟩ := World.cells?_some hcs
                rw [hc1] at g1 g2
                have g3 : ∀ j, j < ls.length → c[off + i * ls.length + j]? = cs[j]? := by
                  intro j hj
                  have := g2 j hj
                  rw [addr_add, addr_add] at this
                  simpa [World.cell?, hb] using this
                have g4 : off + i * ls.length + ls.length ≤ c.size := by
                  have := g3 (ls.length - 1) (by omega)
                  rw [List.getElem?_eq_getElem (by omega)] at this
                  have := (Array.getElem?_eq_some_iff.1 this).1
                  omega
                refine ⟨?_, g4⟩
                apply List.ext_getElem?
                intro j
                by_cases hj : j < ls.length
                · rw [← g3 j hj, List.getElem?_take, if_pos hj, List.getElem?_drop, Array.getElem?_toList]
                · rw [List.getElem?_eq_none (by omega), List.getElem?_eq_none (by simp; omega)]
              obtain ⟨ι1, D1, A1, rows, p0, p1, p2, p3, p4, p5, p6⟩ := imp_rows (W := W) (ks := ls) (L := c.toList.drop off) len ι D A (fun i hi ι D A hR hro => by
                obtain ⟨x, cs, g1, g2⟩ := each i (by omega)
                obtain ⟨e1, _⟩ := cells_eq i cs g1
                have := imp_all hblk n m' e ls cs x ι D A hls g2 hR hro
                rwa [e1, ← List.drop_drop] at this) hR hro
              have hk := p2.mem
              have hfl := flatten_length fun r hr => (hk r hr).length
              have hones : ∀ v ∈ rows.flatten, v.one = true := by
                intro v hv
                obtain ⟨r, hr, hvr⟩ := List.mem_flatten.1 hv
                exact (hk r hr).one v hvr
              obtain ⟨x, cs, q1, q2⟩ := each (cap - 1) (by omega)
              obtain ⟨_, q3⟩ := cells_eq _ _ q1
              have q4 : off + cap * ls.length ≤ c.size := by
                have : cap * ls.length = (cap - 1) * ls.length + ls.length := by
                  conv => lhs; rw [show cap = cap - 1 + 1 by omega, Nat.add_mul, Nat.one_mul]
                omega
              have q5 : len * ls.length ≤ cap * ls.length := Nat.mul_le_mul_right _ hl
              obtain ⟨g1, g2, g3⟩ := add_ro (vs := rows.flatten) (off := off) p3 p4 hb (by rw [hfl, p0]; omega) hones (by rw [hfl, p0]; exact p1)
              have hu : updI ι1 A1.next ⟨b, off, c.size⟩ A1.next = ⟨b, off, c.size⟩ := by unfold updI; rw [if_pos rfl]
              have hgr : Grows A1 (A1.alloc (.cells .ro rows.flatten)) := Keeps.alloc
              refine ⟨_, _, _, [.sl ls.length (some (A1.next, 0)) len len], .cons _ _ _ _ (RV.sl ls.length A1.next 0 ⟨b, off, none⟩ len len cap (.inr rfl) hl hl hmx (.inr ⟨by rw [hu]; rfl, by rw [hu]; simpa using q4⟩)) .nil,
                .cons _ _ _ _ (.sl _ _ rows (.inr ⟨A1.next, 0, len, rows.flatten, by rw [p0], trivial, ?_⟩) (p2.grow hgr) (by omega)) .nil, g1, g2, p5.trans g3, p6.trans hgr⟩
              have := SlAt.of (H := A1.alloc (.cells .ro rows.flatten)) (md := .ro) (es := ls.length) (id := A1.next) (o := 0) (cap := len) (rows := rows) (A := []) (B := []) (by simp) (by simp) (fun r hr => (hk r hr).length) rfl (by simp [p0]) (by omega)
              simpa using this
        · cases h
      · cases h
    · cases h

/-- What an argument is. -/
inductive ATy where
  | one (k : KC)
  | agg (ks : List KC)
  | sl (ks : List KC)

def argTy (P : Program) (n : Nat) (t : TypeId) : Option ATy := match P.underlying t with
  | some (.slice _) => match flatKinds P n t with
    | some [.sl ks] => some (.sl ks)
    | _ => none
  | some (.struct _) => match flatKinds P n t with
    | some ks => some (.agg ks)
    | none => none
  | some .bool => some (.one .b)
  | some (.int k) => some (.one (.i k))
  | some .string => some (.one .s)
  | _ => none

def ATy.has (H : AH) : ATy → V → Prop
  | .one k, v => HasC H k v
  | .agg ks, v => ∃ vs, v = .agg vs ∧ HasK H ks vs
  | .sl ks, v => ∃ rows : List (List V), SlV H .ro ks.length v rows (fun _ => True) ∧ (∀ r ∈ rows, HasK H ks r) ∧ rows.length ≤ maxLen

theorem ATy.has.grow {H H' : AH} {ty : ATy} {v : V} (h : ty.has H v) (hg : Grows H H') : ty.has H' v := by
  cases ty with
  | one k => exact HasC.grow hg h
  | agg ks => obtain ⟨vs, h1, h2⟩ := h; exact ⟨vs, h1, h2.grow hg⟩
  | sl ks =>
    obtain ⟨rows, h1, h2, h3⟩ := h
    exact ⟨rows, h1.keep hg fun _ _ h => h, fun r hr => (h2 r hr).grow hg, h3⟩

theorem import_one {W : World} (hblk : ∃ (b : Nat) (c : Array Value) (e : TypeId) (fr : Nat × Nat), W.heap[b]? = some (Obj.cells c e fr)) {ι : Inj} {D : Nat → Prop} {A : AH} (hR : Rel P W ι D A W) (hro : AllRo A) {n b0 : Nat} {t : TypeId} {ty : ATy} {v : Value} {d : DataW H} {ps : List MemPlace} (hty : argTy P (n + 1) t = some ty)
    (h : DataW.Trod enc P W 0 (fun _ => true) true t v d ps) (hok : Value.okWide P W .any b0 t v) :
    ∃ ι' D' A' a, RV ι' D' a v ∧ ty.has A' a ∧ Rel P W ι' D' A' W ∧ AllRo A' ∧ Ext ι D ι' D' ∧ Grows A A' := by
  have key : ∀ k, flatKinds P (n + 1) t = some [k] → v.cells.toList = [v] → ∃ ι' D' A' a, RV ι' D' a v ∧ HasC A' k a ∧ Rel P W ι' D' A' W ∧ AllRo A' ∧ Ext ι D ι' D' ∧ Grows A A' := by
    intro k hk hv
    obtain ⟨m, hm⟩ := h
    obtain ⟨ι', D', A', vs, h1, h2, h3, h4, h5, h6⟩ := imp_all hblk _ _ _ _ _ _ ι D A hk hm hR hro
    rw [hv] at h1
    cases h2 with
    | cons _ a _ _ ha hn =>
      cases hn
      cases h1 with
      | cons _ _ _ _ r _ => exact ⟨ι', D', A', a, r, ha, h3, h4, h5, h6⟩
  unfold argTy at hty
  unfold Value.okWide at hok
  split at hty
  · next e ht =>
    rw [ht] at hok
    simp only [Cell.okWide, ht] at hok
    simp only [Cell.ok, ht] at hok
    split at hty
    · next ks hks =>
      simp only [Option.some.injEq] at hty; subst hty
      obtain ⟨ι', D', A', a, r, ha, h3⟩ := key _ hks (by cases v <;> first | rfl | exact hok.elim)
      cases ha with
      | sl _ _ rows g1 g2 g3 => exact ⟨ι', D', A', a, r, ⟨rows, g1, g2.mem, g3⟩, h3⟩
    · cases hty
  · next fs ht =>
    rw [ht] at hok
    obtain ⟨cs, rfl, _, _⟩ := hok
    split at hty
    · next ks hks =>
      simp only [Option.some.injEq] at hty; subst hty
      obtain ⟨m, hm⟩ := h
      obtain ⟨ι', D', A', vs, h1, h2, h3⟩ := imp_all hblk _ _ _ _ _ _ ι D A hks hm hR hro
      refine ⟨ι', D', A', .agg vs, ?_, ⟨vs, rfl, h2⟩, h3⟩
      have := RV.agg vs _ h1
      simpa [Value.cells] using this
    · cases hty
  · next ht =>
    simp only [Option.some.injEq] at hty; subst hty
    rw [ht] at hok
    exact key .b (by simp only [flatKinds, ht]) (by cases v <;> first | rfl | simp [Cell.okWide, Cell.ok, ht] at hok)
  · next k ht =>
    simp only [Option.some.injEq] at hty; subst hty
    rw [ht] at hok
    exact key (.i k) (by simp only [flatKinds, ht]) (by cases v <;> first | rfl | simp [Cell.okWide, Cell.ok, ht] at hok)
  · next ht =>
    simp only [Option.some.injEq] at hty; subst hty
    rw [ht] at hok
    exact key .s (by simp only [flatKinds, ht]) (by cases v <;> first | rfl | simp [Cell.okWide, Cell.ok, ht] at hok)
  · cases hty
end Ram

/- The frame of a law: whatever its arguments are, it returns true, and they read as they did. -/
namespace Ram
open Go Go.ChangeShapes Go.WideShapes Go.ChangeAt Go.RowKit

inductive HasA (A : AH) : List ATy → List V → Prop
  | nil : HasA A [] []
  | cons {ty : ATy} {v : V} {tys : List ATy} {vs : List V} : ty.has A v → HasA A tys vs → HasA A (ty :: tys) (v :: vs)

theorem HasA.inv {A : AH} {ty : ATy} {tys : List ATy} {l : List V} (h : HasA A (ty :: tys) l) : ∃ v vs, l = v :: vs ∧ ty.has A v ∧ HasA A tys vs := by
  cases h with | cons h1 h2 => exact ⟨_, _, rfl, h1, h2⟩
theorem HasA.inv0 {A : AH} {l : List V} (h : HasA A [] l) : l = [] := by cases h; rfl
theorem has_i {A : AH} {k : IntKind} {v : V} (h : HasC A (.i k) v) : ∃ n, v = .i k n ∧ k.has n := by cases h; exact ⟨_, rfl, by assumption⟩
theorem has_b {A : AH} {v : V} (h : HasC A .b v) : ∃ x, v = .b x := by cases h; exact ⟨_, rfl⟩
theorem has_s {A : AH} {v : V} (h : HasC A .s v) : ∃ l, v = .s l ∧ l.length ≤ maxLen := by cases h; exact ⟨_, rfl, by assumption⟩
theorem has_sl {A : AH} {ks : List KC} {v : V} (h : HasC A (.sl ks) v) : ∃ rows, SlV A .ro ks.length v rows (fun _ => True) ∧ HasRs A ks rows ∧ rows.length ≤ maxLen := by cases h; exact ⟨_, by assumption, by assumption, by assumption⟩
theorem HasK.inv {A : AH} {k : KC} {ks : List KC} {vs : List V} (h : HasK A (k :: ks) vs) : ∃ v us, vs = v :: us ∧ HasC A k v ∧ HasK A ks us := by
  cases h with | cons _ _ _ _ h1 h2 => exact ⟨_, _, rfl, h1, h2⟩
theorem HasK.invi {A : AH} {k : IntKind} {ks : List KC} {vs : List V} (h : HasK A (.i k :: ks) vs) : ∃ n us, vs = .i k n :: us ∧ k.has n ∧ HasK A ks us := by
  obtain ⟨v, us, rfl, h1, h2⟩ := HasK.inv h
  obtain ⟨n, rfl, hn⟩ := has_i h1
  exact ⟨n, us, rfl, hn, h2⟩
theorem HasK.invb {A : AH} {ks : List KC} {vs : List V} (h : HasK A (.b :: ks) vs) : ∃ x us, vs = .b x :: us ∧ HasK A ks us := by
  obtain ⟨v, us, rfl, h1, h2⟩ := HasK.inv h
  obtain ⟨n, rfl⟩ := has_b h1
  exact ⟨n, us, rfl, h2⟩
theorem HasK.invs {A : AH} {ks : List KC} {vs : List V} (h : HasK A (.s :: ks) vs) : ∃ x us, vs = .s x :: us ∧ x.length ≤ maxLen ∧ HasK A ks us := by
  obtain ⟨v, us, rfl, h1, h2⟩ := HasK.inv h
  obtain ⟨n, rfl, hn⟩ := has_s h1
  exact ⟨n, us, rfl, hn, h2⟩
theorem HasK.invsl {A : AH} {ls ks : List KC} {vs : List V} (h : HasK A (.sl ls :: ks) vs) : ∃ v us rows, vs = v :: us ∧ SlV A .ro ls.length v rows (fun _ => True) ∧ HasRs A ls rows ∧ rows.length ≤ maxLen ∧ HasK A ks us := by
  obtain ⟨v, us, rfl, h1, h2⟩ := HasK.inv h
  obtain ⟨rows, g1, g2, g3⟩ := has_sl h1
  exact ⟨v, us, rows, rfl, g1, g2, g3, h2⟩
theorem HasK.inv0 {A : AH} {vs : List V} (h : HasK A [] vs) : vs = [] := by cases h; rfl
theorem HasA.invi {A : AH} {k : IntKind} {tys : List ATy} {l : List V} (h : HasA A (.one (.i k) :: tys) l) : ∃ n vs, l = .i k n :: vs ∧ k.has n ∧ HasA A tys vs := by
  obtain ⟨v, vs, rfl, h1, h2⟩ := h.inv
  obtain ⟨n, rfl, hn⟩ := has_i h1
  exact ⟨n, vs, rfl, hn, h2⟩
theorem HasA.invb {A : AH} {tys : List ATy} {l : List V} (h : HasA A (.one .b :: tys) l) : ∃ x vs, l = .b x :: vs ∧ HasA A tys vs := by
  obtain ⟨v, vs, rfl, h1, h2⟩ := h.inv
  obtain ⟨n, rfl⟩ := has_b h1
  exact ⟨n, vs, rfl, h2⟩
theorem HasA.invs {A : AH} {tys : List ATy} {l : List V} (h : HasA A (.one .s :: tys) l) : ∃ x vs, l = .s x :: vs ∧ x.length ≤ maxLen ∧ HasA A tys vs := by
  obtain ⟨v, vs, rfl, h1, h2⟩ := h.inv
  obtain ⟨n, rfl, hn⟩ := has_s h1
  exact ⟨n, vs, rfl, hn, h2⟩

def argTys (P : Program) (n : Nat) : List TypeId → Option (List ATy)
  | [] => some []
  | t :: ts => match argTy P n t, argTys P n ts with
    | some a, some l => some (a :: l)
    | _, _ => none

variable {P : Program} {H : Type} {enc : TypeId × Value → H}

theorem import_all {W : World} (hblk : ∃ (b : Nat) (c : Array Value) (e : TypeId) (fr : Nat × Nat), W.heap[b]? = some (Obj.cells c e fr)) {n b0 : Nat} : ∀ {ts : List TypeId} {tys : List ATy} {vs : List Value} {ds : List (DataW H)} {ps : List MemPlace} {ι : Inj} {D : Nat → Prop} {A : AH}, argTys P (n + 1) ts = some tys →
    DataW.TrodAll enc P W 0 (fun _ => true) true ts vs ds ps → (∀ (j : Nat) t v, ts[j]? = some t → vs[j]? = some v → Value.okWide P W .any b0 t v) → Rel P W ι D A W → AllRo A →
    ∃ ι' D' A' as, RVs ι' D' as vs ∧ HasA A' tys as ∧ Rel P W ι' D' A' W ∧ AllRo A' ∧ Ext ι D ι' D' ∧ Grows A A'
  | [], tys, vs, ds, ps, ι, D, A, hty, h, hok, hR, hro => by
    simp only [argTys, Option.some.injEq] at hty; subst hty
    obtain ⟨rfl, rfl, rfl⟩ := trodAll_nil h
    exact ⟨ι, D, A, [], .nil, .nil, hR, hro, Ext.refl, Keeps.refl⟩
  | t :: ts, tys, vs, ds, ps, ι, D, A, hty, h, hok, hR, hro => by
    simp only [argTys] at hty
    split at hty
    · next a l ha hl =>
      simp only [Option.some.injEq] at hty; subst hty
      obtain ⟨v, vs1, d, ds1, p, q, rfl, rfl, rfl, h0, h1⟩ := trodAll_cons h
      obtain ⟨ι1, D1, A1, x, r1, r2, r3, r4, r5, r6⟩ := import_one hblk hR hro ha h0 (hok 0 t v rfl rfl)
      obtain ⟨ι2, D2, A2, xs, s1, s2, s3, s4, s5, s6⟩ := import_all hblk hl h1 (fun j t' v' ht hv => hok (j + 1) t' v' (by simpa using ht) (by simpa using hv)) r3 r4
      exact ⟨ι2, D2, A2, x :: xs, .cons _ _ _ _ (r1.ext s5) s1, .cons (r2.grow s6) s2, s3, s4, r5.trans s5, r6.trans s6⟩
    · cases hty

theorem trodAll_stays {W W' : World} {sp' : Nat → Bool} (hl : laidOutB P = true) : ∀ {ts : List TypeId} {vs : List Value} {ds : List (DataW H)} {ps : List MemPlace}, (∀ t ∈ ts, P.readableRec t = true ∧ t < P.types.size) →
    DataW.TrodAll enc P W 0 (fun _ => true) true ts vs ds ps → (∀ p ∈ ps, W.sameAt W' p) → (∀ p ∈ ps, sp' p.block = true) → DataW.TrodAll enc P W' 0 sp' true ts vs ds ps
  | [], [], [], _, _, h, _, _ => h
  | [], _ :: _, _, _, _, h, _, _ => h.elim
  | [], [], _ :: _, _, _, h, _, _ => h.elim
  | _ :: _, [], _, _, _, h, _, _ => h.elim
  | _ :: _, _ :: _, [], _, _, h, _, _ => h.elim
  | t :: ts, v :: vs, d :: ds, ps, ht, ⟨p, q, h1, h2, e⟩, hs, hsp => by
    subst e
    obtain ⟨g1, g2⟩ := ht t (by simp)
    exact ⟨p, q, Go.WideElems.Trod_stays hl g1 g2 h1 (fun x hx => hs x (by simp [hx])) (fun x hx => hsp x (by simp [hx])),
      trodAll_stays hl (fun t ht' => ht t (by simp [ht'])) h2 (fun x hx => hs x (by simp [hx])) (fun x hx => hsp x (by simp [hx])), rfl⟩

/-- A row that lies in every world: the run's own. -/
theorem cells_block {P : Program} {w : World} (h : w.ShapedOpen P) : ∃ (b : Nat) (c : Array Value) (e : TypeId) (fr : Nat × Nat), w.heap[b]? = some (Obj.cells c e fr) := by
  obtain ⟨_, h2⟩ := h
  obtain ⟨o, o0, g1, g2, g3⟩ := h2 P.globals.size (Nat.le_refl _) (by simp [begin]; omega)
  have e1 : o0 = .cells ((Array.range P.types.size).map fun t => .int .u64 (Int.ofNat t)) 0 := by
    simp only [begin] at g2
    rw [Array.getElem?_push, if_neg (by simp; omega), Array.getElem?_push, if_neg (by simp; omega), Array.getElem?_push, if_neg (by simp; omega), Array.getElem?_push, if_neg (by simp), Array.getElem?_push, if_pos (by simp)] at g2
    exact (Option.some.inj g2).symm
  rw [Nat.sub_self, show World.looseAt 0 = false by decide] at g3
  simp only [Bool.false_eq_true, if_false] at g3
  rw [g3, e1] at g1
  exact ⟨_, _, _, _, g1⟩

/-- The call of a law. -/
theorem law_calls {C : Checked} {f : FuncId} {fn : Func} {s : ChangeSpec} {apart fresh handsOn again : Bool} {n : Nat} {tys : List ATy} {tb : TypeId} {W : World} {base : Nat} {args : Array Value} {ds gs : List (DataW H)} {before : List MemPlace}
    (hl : laidOutB C.prog = true) (hread : (fn.params.toList.all fun t => C.prog.readableRec t && decide (t < C.prog.types.size)) = true)
    (hvars : s.vars = []) (hspec : ∀ ds : List (DataW H), ds.length = fn.params.size → s.fn H ds = { results := [.lit (.bool true)], args := ds })
    (htys : argTys C.prog (n + 1) fn.params.toList = some tys) (hres : fn.resultTypes = #[tb]) (hbool : C.prog.underlying tb = some .bool)
    (hblk : ∃ (b : Nat) (c : Array Value) (e : TypeId) (fr : Nat × Nat), W.heap[b]? = some (Obj.cells c e fr))
    (hval : ∀ (j : Nat) t v, fn.params[j]? = some t → args[j]? = some v → Value.okWide C.prog W .any base t v)
    (hW : DataW.Whole enc C.prog fn.params.toList s.vars apart W args.toList ds gs before)
    (hlaw : ∀ A as, HasA A tys as → ACalls C.prog W f as A fun e _ => e = .ret (.b true)) :
    Calls C.prog f args W fun e W' => ∃ v, e = .returned v ∧ s.post enc C.prog fn apart fresh handsOn again W args v W' := by
  have hW' := hW
  obtain ⟨p, q, hA, hV, rfl, hfz, hnd⟩ := hW
  rw [hvars] at hV
  obtain ⟨rfl, rfl⟩ := trodVars_none hV
  obtain ⟨ι, D, A, as, r1, r2, r3, r4, r5, r6⟩ := import_all hblk htys hA (b0 := base) (fun j t v ht hv => hval j t v (by simpa using ht) (by simpa using hv)) (rel_none W fun _ => ⟨0, 0, 0⟩) (fun i o h => by cases h)
  have hlen : ds.length = fn.params.size := by
    have : ∀ {ts : List TypeId} {vs : List Value} {ds : List (DataW H)} {ps : List MemPlace}, DataW.TrodAll enc C.prog W 0 (fun _ => true) true ts vs ds ps → ds.length = ts.length := by
      intro ts
      induction ts with
      | nil => intro vs ds ps h; obtain ⟨_, rfl, _⟩ := trodAll_nil h; rfl
      | cons t ts ih => intro vs ds ps h; obtain ⟨v, vs1, d, ds1, p, q, rfl, rfl, rfl, h0, h1⟩ := trodAll_cons h; simp [ih h1]
    simpa using this hA
  have hcall := (hlaw A as r2).2 ι D W args.toList r1 r3
  refine hcall.mono fun e W' h => ?_
  obtain ⟨ae, ι', D', H', g1, g2, g3, _⟩ := h
  subst g1
  obtain ⟨c, rfl, hc⟩ := g2
  cases hc
  have hb := g3.below
  refine ⟨_, rfl, ?_⟩
  have hs1 := hspec ds hlen
  refine post_below (pa := p) (pv := []) hW' ?_ ?_ ?_ rfl hb ?_
  · intro b sp hd
    rw [List.append_nil, hs1, hres]
    exact trodAll_cons_mk (shut_bool hbool _) trodAll_mk0
  · intro sp hsp
    rw [List.append_nil, hs1]
    refine trodAll_stays hl (fun t ht => ?_) hA (fun x hx => hb.same (by simpa using hW'.lt x (by simp [hx]))) (fun x hx => hsp x (by simp [hx]))
    have := List.all_eq_true.1 hread t ht
    simpa using this
  · intro sp hsp
    rw [List.append_nil, hs1, hvars]
    rfl
  · exact ok_one hres rfl (okWide_bool_mk hbool _)

/-- THE FRAME OF A LAW. -/
theorem law_lifted {a : Assume} {C : Checked} {os : Os} {f : FuncId} {fn : Func} {s : ChangeSpec} {conds : List PathCond} {apart fresh handsOn again : Bool} {n : Nat} {tys : List ATy} {tb : TypeId}
    (own : ownKnob C.prog.godebug = none) (started : os.Started) (noInit : C.prog.inits.idxOf? f = none) (hfn : C.prog.funcs[f]? = some fn)
    (witness : ∃ (w : World) (tape : Tape) (i : Input), w.os = os ∧ (w.forCall tape i).Shaped C.prog ∧ i.vars = [] ∧ Input.okWide C.prog (w.forCall tape i) .any w.heap.size f i ∧
      s.pre6 enc C.prog fn conds apart (w.forCall tape i).memory i.args ∧ a.holds C.prog (lone (Frame.enter C.prog f i.args .normal) [] (w.forCall tape i)))
    (hl : laidOutB C.prog = true) (hread : (fn.params.toList.all fun t => C.prog.readableRec t && decide (t < C.prog.types.size)) = true)
    (hvars : s.vars = []) (hspec : ∀ ds : List (DataW H), ds.length = fn.params.size → s.fn H ds = { results := [.lit (.bool true)], args := ds })
    (htys : argTys C.prog (n + 1) fn.params.toList = some tys) (hres : fn.resultTypes = #[tb]) (hbool : C.prog.underlying tb = some .bool)
    (hlaw : ∀ W A as, HasA A tys as → ACalls C.prog W f as A fun e _ => e = .ret (.b true)) :
    ReturnsInHanded a C os f .any (s.pre6 enc C.prog fn conds apart) (s.post enc C.prog fn apart fresh handsOn again) := by
  refine returnsInHanded_of_calls own started noInit witness ?_
  intro w tape i _ hshape _ hok hpre hholds
  obtain ⟨_, _, _, fn', hfn', _, _, _, _, hval⟩ := hok
  have e : fn' = fn := Option.some.inj (hfn'.symm.trans hfn)
  subst e
  obtain ⟨⟨ds, gs, before, hw, hc⟩, _⟩ := hpre
  have hw' := DataW.Whole.of_heap (w' := w.forCall tape i) (by rfl) hw
  refine (law_calls (apart := apart) (fresh := fresh) (handsOn := handsOn) (again := again) hl hread hvars hspec htys hres hbool (cells_block hshape) hval hw' (hlaw _)).mono fun e W' ⟨v, he, hp⟩ => ?_
  subst he
  exact ChangeSpec.post_blind hp
end Ram

/- A call that writes one row and makes blocks of its own: the library's sort, taken over. -/
namespace Ram
open Go
open Go.RowKit (Below)

variable {P : Program} {W0 : World} {ι : Inj} {D : Nat → Prop} {H : AH} {w w' : World}

theorem rel_more (hR : Rel P W0 ι D H w) (hs : SameOut w w') (hkeep : ∀ b, b < w.heap.size → w'.heap[b]? = w.heap[b]?) : Rel P W0 ι D H w' :=
  ⟨fun i o ho => RObj.mono Ext.refl (fun hl => hkeep _ (hR.inw i (hR.dom i o ho hl))) (hR.objs i o ho), hR.dom, hR.lt, hR.get_lt, hR.apart, hR.new, fun i hi => Nat.lt_of_lt_of_le (hR.inw i hi) hs.size,
    below_step hR hs fun b hb => hkeep b (by have := hR.below.size; omega)⟩

theorem stp_more (hs : SameOut w w') (hkeep : ∀ b, b < w.heap.size → w'.heap[b]? = w.heap[b]?) : Stp ι D H w ι D H w' :=
  ⟨Ext.refl, fun _ h => .inl h, Nat.le_refl _, fun b hb _ => hkeep b hb, fun _ _ h => h, fun _ _ h => h, hs.size, hs.os, hs.tape, hs.output⟩

def iRow (z : Int) : List V := [.i .i64 z]
theorem flat_iRow (zs : List Int) : (zs.map iRow).flatten = zs.map (V.i .i64) := by
  induction zs with
  | nil => rfl
  | cons z zs ih => simp [iRow] at ih ⊢; exact ih

theorem putCells_toList {α : Type} [Inhabited α] (enc : α → Value) (off : Nat) (d : Array α) (c : Array Value) (h : off + d.size ≤ c.size) : (Sort.putCells enc off d c).toList = c.toList.take off ++ d.toList.map enc ++ c.toList.drop (off + d.size) := by
  apply List.ext_getElem?
  intro j
  unfold Sort.putCells
  rw [Array.getElem?_toList, Array.getElem?_mapIdx]
  by_cases h1 : j < off
  · rw [List.append_assoc, List.getElem?_append_left (by simp; omega), List.getElem?_take, if_pos h1, Array.getElem?_toList]
    cases hc : c[j]? with
    | none => rfl
    | some x => simp only [Option.map_some]; rw [if_neg (by omega)]
  · by_cases h2 : j < off + d.size
    · rw [List.getElem?_append_left (by simp; omega), List.getElem?_append_right (by simp; omega)]
      have hl : (c.toList.take off).length = off := by simp; omega
      rw [hl, List.getElem?_map, Array.getElem?_toList]
      rw [Array.getElem?_eq_getElem (show j < c.size by omega), Array.getElem?_eq_getElem (show j - off < d.size by omega)]
      simp only [Option.map_some]
      rw [if_pos ⟨by omega, h2⟩, getElem!_pos d (j - off) (by omega)]
    · have hl : (c.toList.take off ++ d.toList.map enc).length = off + d.size := by simp; omega
      rw [List.getElem?_append_right (by omega), hl, List.getElem?_drop, Array.getElem?_toList]
      rw [show off + d.size + (j - (off + d.size)) = j by omega]
      cases hc : c[j]? with
      | none => rfl
      | some x => simp only [Option.map_some]; rw [if_neg (by omega)]

/-- The library's sort of whole numbers, taken over. -/
theorem sort_of {f : FuncId} (hb : HasBody P f) (hc : ∀ (blk off cap : Nat) (zs : List Int) (w : World), Sort.Holds (Value.int .i64) w blk off zs.toArray → blk < w.heap.size → zs.length < 4611686018427387904 →
      Calls P f #[.slice (some ⟨blk, off, none⟩) zs.length cap] w fun e w' => e = .returned (.tuple #[]) ∧ ∃ n os, w' = Sort.grow (Sort.putRow (Value.int .i64) (Sort.ahead w n) blk off (zs.mergeSort fun x y => decide (x ≤ y)).toArray) os)
    (h0 : ∀ (p : Option Addr) (cap : Nat) (w : World), Calls P f #[.slice p 0 cap] w fun e w' => e = .returned (.tuple #[]) ∧ w' = w)
    {v : V} {zs : List Int} {F : Nat → Prop} (hs : SlV H .rw 1 v (zs.map iRow) F) (hl : zs.length < 1000000) :
    ACalls P W0 f [v] H fun e H' => e = .ret (.tup []) ∧ SlV H' .rw 1 v ((zs.mergeSort fun x y => decide (x ≤ y)).map iRow) F ∧ Keeps F H H' ∧ H'.next = H.next := by
  refine ⟨hb, fun ι D w cs hv hR => ?_⟩
  cases hv with
  | cons _ c _ _ r hn =>
    cases hn
    by_cases hz : zs = []
    · subst hz
      have hcc : ∃ p cap, c = .slice p 0 cap := by
        rcases hs with ⟨_, e, rfl⟩ | ⟨id, o, cap, cs, rfl, _, _⟩
        · cases r; exact ⟨none, 0, rfl⟩
        · cases r; exact ⟨_, _, rfl⟩
      obtain ⟨p, cap, rfl⟩ := hcc
      exact (h0 p cap w).mono fun e w' ⟨he, hw⟩ => by
        subst hw
        exact ⟨.ret (.tup []), ι, D, H, ⟨rfl, by simpa using hs, Keeps.refl, rfl⟩, ⟨_, he, .tup [] [] .nil⟩, hR, Stp.refl⟩
    · rcases hs with ⟨hnil, _⟩ | ⟨id, o, cap, cs, rfl, hF, hs⟩
      · simp only [List.map_eq_nil_iff] at hnil; exact (hz hnil).elim
      · obtain ⟨zz, hzz⟩ : ∃ zz, zz = zs.mergeSort fun x y => decide (x ≤ y) := ⟨_, rfl⟩
        have hzl : zz.length = zs.length := by rw [hzz, List.length_mergeSort]
        have hpos : 0 < zs.length := by
          cases zs with
          | nil => exact (hz rfl).elim
          | cons a l => simp
        cases r with
        | sl es _ _ q len _ ccap hD h1 h2 h3 h4 =>
          rw [List.length_map] at h1 ⊢
          have hcap : ccap ≠ 0 := by omega
          obtain ⟨hq, hfit⟩ := h4.resolve_left hcap
          subst hq
          obtain ⟨k, hk⟩ : ∃ k, k = (ι id).o + o := ⟨_, rfl⟩
          rw [← hk]
          obtain ⟨A, B, hcs, hA, hB⟩ := hs.parts
          rw [flat_iRow] at hcs
          obtain ⟨ca, e, fr, hb1, hb2, hb3, hb4, hb5, hb6, hb7⟩ := hR.objs id _ hs.get
          have hfr := hb6 rfl
          subst hfr
          have hlen : cs.length = A.length + zs.length + B.length := by rw [hcs]; simp; omega
          have hlt : (ι id).b < w.heap.size := hR.inw id hD
          -- its cells
          have hcell : ∀ j, j < zs.length → ca[k + j]? = some (.int .i64 zs[j]!) := by
            intro j hj
            have hcj : cs[o + j]? = some (.i .i64 zs[j]!) := by
              rw [hcs, List.append_assoc, List.getElem?_append_right (by omega), List.getElem?_append_left (by simp; omega), List.getElem?_map, show o + j - A.length = j by omega, List.getElem?_eq_getElem hj]
              simp [hj]
            obtain ⟨c', g1, g2⟩ := hb5.get _ _ hcj
            cases g2
            rw [List.getElem?_take, if_pos (by omega), List.getElem?_drop, Array.getElem?_toList] at g1
            rw [hk, show (ι id).o + o + j = (ι id).o + (o + j) by omega]; exact g1
          have hH : Sort.Holds (Value.int .i64) w (ι id).b k zs.toArray := by
            intro j hj
            have hj' : j < zs.length := by simpa using hj
            refine ⟨?_, by simp [World.frozen?, hb1]⟩
            simp only [World.cell?, hb1]
            rw [if_neg (by simp), hcell j hj']
            simp [hj']
          refine (hc (ι id).b k ccap zs w hH hlt (by omega)).mono fun e' w' ⟨he, n, os, hw⟩ => ?_
          rw [← hzz] at hw
          obtain ⟨w1, hw1⟩ : ∃ w1, w1 = Sort.putRow (Value.int .i64) (Sort.ahead w n) (ι id).b k zz.toArray := ⟨_, rfl⟩
          rw [← hw1] at hw
          have hh1 : w1.heap[(ι id).b]? = some (.cells (Sort.putCells (Value.int .i64) k zz.toArray ca) e (0, 0)) := by
            rw [hw1]; simp [Sort.putRow, Sort.mapBlock, Sort.ahead, Array.getElem?_modify, hb1, Sort.onCells]
          have hho : ∀ b, b ≠ (ι id).b → w1.heap[b]? = w.heap[b]? := by
            intro b hb'
            rw [hw1]; simp [Sort.putRow, Sort.mapBlock, Sort.ahead, Array.getElem?_modify, Ne.symm hb']
          have hs1 : w1.heap.size = w.heap.size := by rw [hw1]; simp [Sort.putRow, Sort.mapBlock, Sort.ahead]
          have so1 : SameOut w w1 := ⟨by rw [hw1]; rfl, by rw [hw1]; rfl, by rw [hw1]; rfl, by omega⟩
          have so2 : SameOut w1 w' := ⟨by rw [hw]; rfl, by rw [hw]; rfl, by rw [hw]; rfl, by rw [hw]; simp [Sort.grow]⟩
          have hkeep2 : ∀ b, b < w1.heap.size → w'.heap[b]? = w1.heap[b]? := by
            intro b hb'; rw [hw]; simp only [Sort.grow]; rw [Array.getElem?_append_left hb']
          have hpsz : (Sort.putCells (Value.int .i64) k zz.toArray ca).size = ca.size := by simp [Sort.putCells]
          have hfl : A.length + zs.length + B.length + (ι id).o ≤ ca.size := by omega
          obtain ⟨cs', hcs'⟩ : ∃ cs', cs' = A ++ zz.map (V.i .i64) ++ B := ⟨_, rfl⟩
          have hl' : cs'.length = cs.length := by rw [hcs', hlen]; simp; omega
          have ho : RObj P ι D w1 (ι id) (.cells .rw cs') := by
            refine ⟨_, e, (0, 0), hh1, by rw [hpsz]; exact hb2, by rw [hl']; exact hb3, ?_, ?_, fun _ => rfl, fun h => by cases h⟩
            · intro x hx
              rw [hcs'] at hx
              rcases List.mem_append.1 hx with hx | hx
              · rcases List.mem_append.1 hx with hx | hx
                · exact hb4 x (by rw [hcs]; simp [hx])
                · obtain ⟨z, _, rfl⟩ := List.mem_map.1 hx; rfl
              · exact hb4 x (by rw [hcs]; simp [hx])
            · have hg : ∀ i, (Sort.putCells (Value.int .i64) k zz.toArray ca)[i]? = ca[i]?.map fun x => if k ≤ i ∧ i < k + zz.length then Value.int .i64 zz[i - k]! else x := by
                intro i
                unfold Sort.putCells
                rw [Array.getElem?_mapIdx]
                simp
              refine RVs.of_get (by simp [hpsz]; omega) fun j x hj => ?_
              have hjl : j < cs'.length := (List.getElem?_eq_some_iff.1 hj).1
              rw [List.getElem?_take, if_pos hjl, List.getElem?_drop, Array.getElem?_toList, hg]
              have old : ∀ (hx : cs[j]? = some x), ∃ c, ca[(ι id).o + j]? = some c ∧ RV ι D x c := by
                intro hx
                obtain ⟨c', g1, g2⟩ := hb5.get _ _ hx
                rw [List.getElem?_take, if_pos (by omega), List.getElem?_drop, Array.getElem?_toList] at g1
                exact ⟨c', g1, g2⟩
              by_cases j1 : j < o
              · have hx : cs[j]? = some x := by
                  rw [hcs', List.append_assoc, List.getElem?_append_left (by omega)] at hj
                  rw [hcs, List.append_assoc, List.getElem?_append_left (by omega)]; exact hj
                obtain ⟨c', g1, g2⟩ := old hx
                exact ⟨c', by rw [g1, Option.map_some, if_neg (by omega)], g2⟩
              · by_cases j2 : j < o + zs.length
                · have hx : x = .i .i64 zz[j - o]! := by
                    rw [hcs', List.append_assoc, List.getElem?_append_right (by omega), List.getElem?_append_left (by simp; omega), List.getElem?_map, hA, List.getElem?_eq_getElem (by omega)] at hj
                    simp only [Option.map_some, Option.some.injEq] at hj
                    rw [← hj, getElem!_pos zz (j - o) (by omega)]
                  refine ⟨.int .i64 zz[j - o]!, ?_, by rw [hx]; exact .i _ _⟩
                  rw [Array.getElem?_eq_getElem (show (ι id).o + j < ca.size by omega), Option.map_some, if_pos (by omega), show (ι id).o + j - k = j - o by omega]
                · have hx : cs[j]? = some x := by
                    rw [hcs', List.getElem?_append_right (by simp; omega)] at hj
                    rw [hcs, List.getElem?_append_right (by simp; omega)]
                    simpa [hzl] using hj
                  obtain ⟨c', g1, g2⟩ := old hx
                  exact ⟨c', by rw [g1, Option.map_some, if_neg (by omega)], g2⟩
          have hown : (AO.cells .rw cs).owns = true := rfl
          have R1 := rel_set hR hs.get hown (fun _ => rfl) so1 hho ho
          have S1 : Stp ι D H w ι D (H.set id (.cells .rw cs')) w1 := stp_set hs.get hown so1 hho
          refine ⟨.ret (.tup []), ι, D, H.set id (.cells .rw cs'), ⟨rfl, ?_, Keeps.set fun _ => hF, rfl⟩, ⟨_, he, .tup [] [] .nil⟩, rel_more R1 so2 hkeep2, S1.trans (stp_more so2 hkeep2)⟩
          refine .inr ⟨id, o, cap, cs', by rw [← hzz, List.length_map, hzl], hF, ?_⟩
          have := SlAt.of (H := H.set id (.cells .rw cs')) (md := .rw) (es := 1) (id := id) (o := o) (cap := cap) (rows := zz.map iRow) (A := A) (B := B) (by rw [AH.get_set, if_pos rfl, flat_iRow, hcs']) hs.lt (by simp [iRow]) hA (by rw [hB]; simp [hzl]) (by have := hs.le; simp at this ⊢; omega)
          rw [flat_iRow, ← hcs'] at this
          rw [← hzz]; exact this
end Ram
