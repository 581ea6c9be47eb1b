/- the abstract machine: values, heaps, what stands for what; its operations. -/
import Derived.Calls
import Derived.Below
import Derived.Laws.AppendOwn
import Derived.WalkKit
import Derived.Laws.StructEq
import Derived.Laws.Cover3
set_option linter.unusedVariables false
set_option linter.unusedSimpArgs false
set_option linter.all false
/- Plain data for an abstract machine: values, a store of registers, a heap of rows, maps and iterators. No program in sight. -/
namespace Ram
open Go

/-- A binary tree over numbers. -/
inductive Tr (α : Type) where
  | leaf
  | node (l : Tr α) (v : Option α) (r : Tr α)

namespace Tr
variable {α : Type}
def get : Tr α → Nat → Option α
  | .leaf, _ => none
  | .node l v r, k => if k = 0 then v else if k % 2 = 1 then l.get (k / 2) else r.get (k / 2 - 1)
def setF : Nat → Tr α → Nat → α → Tr α
  | 0, t, _, _ => t
  | n + 1, .leaf, k, x => if k = 0 then .node .leaf (some x) .leaf else if k % 2 = 1 then .node (setF n .leaf (k / 2) x) none .leaf else .node .leaf none (setF n .leaf (k / 2 - 1) x)
  | n + 1, .node l v r, k, x => if k = 0 then .node l (some x) r else if k % 2 = 1 then .node (setF n l (k / 2) x) v r else .node l v (setF n r (k / 2 - 1) x)
def set (t : Tr α) (k : Nat) (x : α) : Tr α := setF (k + 1) t k x

theorem get_leaf (k : Nat) : (leaf : Tr α).get k = none := rfl

theorem get_setF : ∀ (n : Nat) (t : Tr α) (k j : Nat) (x : α), k < n → (setF n t k x).get j = if j = k then some x else t.get j
  | 0, _, _, _, _, h => by omega
  | n + 1, .leaf, k, j, x, h => by
    simp only [setF]
    by_cases hk : k = 0
    · subst hk
      simp only [if_pos]
      by_cases hj : j = 0
      · simp [get, hj]
      · simp [get, hj]
    · simp only [if_neg hk]
      by_cases hp : k % 2 = 1
      · simp only [if_pos hp, get]
        by_cases hj : j = 0
        · subst hj; simp; omega
        · simp only [if_neg hj]
          by_cases hq : j % 2 = 1
          · simp only [if_pos hq]
            rw [get_setF n .leaf (k / 2) (j / 2) x (by omega)]
            by_cases e : j = k
            · subst e; simp
            · rw [if_neg (by omega), if_neg e]; rfl
          · simp only [if_neg hq]
            rw [if_neg (by omega)]
      · simp only [if_neg hp, get]
        by_cases hj : j = 0
        · subst hj; simp; omega
        · simp only [if_neg hj]
          by_cases hq : j % 2 = 1
          · simp only [if_pos hq]
            rw [if_neg (by omega)]
          · simp only [if_neg hq]
            rw [get_setF n .leaf (k / 2 - 1) (j / 2 - 1) x (by omega)]
            by_cases e : j = k
            · subst e; simp
            · rw [if_neg (by omega), if_neg e]; rfl
  | n + 1, .node l v r, k, j, x, h => by
    simp only [setF]
    by_cases hk : k = 0
    · subst hk
      simp only [if_pos]
      by_cases hj : j = 0
      · simp [get, hj]
      · simp [get, hj]
    · simp only [if_neg hk]
      by_cases hp : k % 2 = 1
      · simp only [if_pos hp, get]
        by_cases hj : j = 0
        · subst hj; simp; omega
        · simp only [if_neg hj]
          by_cases hq : j % 2 = 1
          · simp only [if_pos hq]
            rw [get_setF n l (k / 2) (j / 2) x (by omega)]
            by_cases e : j = k
            · subst e; simp
            · rw [if_neg (by omega), if_neg e]
          · simp only [if_neg hq]
            rw [if_neg (by omega)]
      · simp only [if_neg hp, get]
        by_cases hj : j = 0
        · subst hj; simp; omega
        · simp only [if_neg hj]
          by_cases hq : j % 2 = 1
          · simp only [if_pos hq]
            rw [if_neg (by omega)]
          · simp only [if_neg hq]
            rw [get_setF n r (k / 2 - 1) (j / 2 - 1) x (by omega)]
            by_cases e : j = k
            · subst e; simp
            · rw [if_neg (by omega), if_neg e]

theorem get_set (t : Tr α) (k j : Nat) (x : α) : (t.set k x).get j = if j = k then some x else t.get j :=
  get_setF (k + 1) t k j x (by omega)
theorem get_set_same (t : Tr α) (k : Nat) (x : α) : (t.set k x).get k = some x := by rw [get_set]; simp
theorem get_set_ne (t : Tr α) (k j : Nat) (x : α) (h : j ≠ k) : (t.set k x).get j = t.get j := by rw [get_set, if_neg h]
end Tr

/-- Abstract values. A slice: the cells of an element, where it lies, how long it is, and how much it holds at least. -/
inductive V where
  | b (x : Bool)
  | i (k : IntKind) (n : Int)
  | s (l : List UInt8)
  | p (a : Option (Nat × Nat))
  | sl (es : Nat) (a : Option (Nat × Nat)) (len cap : Nat)
  | m (r : Option Nat)
  | f (fn : Fn) (first captured : List V)
  | nf
  | ifc (t : TypeId) (v : V)
  | ni
  | agg (cs : List V)
  | tup (vs : List V)

instance : Inhabited V := ⟨.nf⟩

def V.cells : V → List V
  | .agg cs => cs
  | v => [v]
def V.one : V → Bool
  | .agg _ | .tup _ => false
  | _ => true

/-- How a row may be used: only read; written; written, its bytes once a string's. -/
inductive Md where
  | ro | rw | rws
  deriving DecidableEq

/-- The loops over functions in a piece of code, in the order of the text. -/
def loopsIn : Code → List (Array Tmp × Code × Code)
  | .seq x y => loopsIn x ++ loopsIn y
  | .cond _ x y => loopsIn x ++ loopsIn y
  | .block _ x => loopsIn x
  | .loop x => loopsIn x
  | .scope x => loopsIn x
  | .rangeFunc _ ps a b => [(ps, a, b)]
  | _ => []
/-- The k-th one of a function: how many registers, the parameters, what assigns, what is done. -/
def siteAt (P : Program) (f k : Nat) : Option (Nat × Array Tmp × Code × Code) :=
  match P.funcs[f]? with
  | some fn => match fn.body with
    | some c => match (loopsIn c)[k]? with
      | some s => some (fn.ntmps, s)
      | none => none
    | none => none
  | none => none
/-- The jump that is left to do. -/
def jumpOf : Option Nat → Code
  | none => .ret
  | some id => .exit id

inductive AO where
  | cells (md : Md) (cs : List V)
  | map (es : List (V × V))
  | iter (l : List UInt8) (pos : Nat)
  | mbox (r : Option Nat)
  | miter (r : Option Nat)
  | bld (T : TypeId) (r : Option Nat) (n : Nat)
  | bbuf (e : TypeId) (l : List UInt8)
  | loop (st : LoopState) (pend : Option (Option Nat)) (f k : Nat) (env : Tr V)
  | dead

structure AH where
  next : Nat
  t : Tr AO

namespace AH
def get (H : AH) (i : Nat) : Option AO := H.t.get i
def set (H : AH) (i : Nat) (o : AO) : AH := { H with t := H.t.set i o }
def alloc (H : AH) (o : AO) : AH := ⟨H.next + 1, H.t.set H.next o⟩
theorem get_set (H : AH) (i j : Nat) (o : AO) : (H.set i o).get j = if j = i then some o else H.get j := Tr.get_set _ _ _ _
theorem get_alloc (H : AH) (j : Nat) (o : AO) : (H.alloc o).get j = if j = H.next then some o else H.get j := Tr.get_set _ _ _ _
theorem next_set (H : AH) (i : Nat) (o : AO) : (H.set i o).next = H.next := rfl
theorem next_alloc (H : AH) (o : AO) : (H.alloc o).next = H.next + 1 := rfl
end AH

abbrev Env := Tr V

/-- An operand. -/
inductive X where
  | t (n : Nat)
  | c (v : V)
  | fn (f : FuncId)

def X.ev (env : Env) : X → Option V
  | .t n => env.get n
  | .c v => some v
  | .fn f => some (.f (.func f) [] [])

end Ram

/- The relation between the abstract machine and the model's worlds. -/
namespace Ram
open Go
open Go.RowKit (Below Hid)

/-- Where an abstract object lies: its block, the first cell, how many cells the block has. -/
structure Pl where
  b : Nat
  o : Nat
  n : Nat
  deriving DecidableEq

abbrev Inj := Nat → Pl

mutual
inductive RV (ι : Inj) (D : Nat → Prop) : V → Value → Prop
  | b (x : Bool) : RV ι D (.b x) (.bool x)
  | i (k : IntKind) (n : Int) : RV ι D (.i k n) (.int k n)
  | s (a : ByteArray) : RV ι D (.s a.data.toList) (.string a)
  | p0 : RV ι D (.p none) (.pointer none)
  | p (id o : Nat) : D id → RV ι D (.p (some (id, o))) (.pointer (some ⟨(ι id).b, (ι id).o + o, none⟩))
  | sl0 (es : Nat) : RV ι D (.sl es none 0 0) (.slice none 0 0)
  | sl (es id o : Nat) (q : Addr) (len cap ccap : Nat) : D id → len ≤ ccap → cap ≤ ccap → ccap ≤ maxLen → (ccap = 0 ∨ (q = ⟨(ι id).b, (ι id).o + o, none⟩ ∧ (ι id).o + o + ccap * es ≤ (ι id).n)) →
      RV ι D (.sl es (some (id, o)) len cap) (.slice (some q) len ccap)
  | m0 : RV ι D (.m none) (.map none)
  | m (id : Nat) : D id → RV ι D (.m (some id)) (.map (some (ι id).b))
  | f (fn : FuncId) (xs ys : List V) (as bs : List Value) : RVs ι D xs as → RVs ι D ys bs → RV ι D (.f (.func fn) xs ys) (.func (.func fn) as.toArray bs.toArray)
  | nf : RV ι D .nf .nilFunc
  | y (id : Nat) : D id → RV ι D (.f (.yield id) [] []) (.func (.yield (ι id).b) #[] #[])
  | ifc (t : TypeId) (v : V) (c : Value) : RV ι D v c → RV ι D (.ifc t v) (.iface t c)
  | ni : RV ι D .ni .nilIface
  | agg (xs : List V) (as : List Value) : RVs ι D xs as → RV ι D (.agg xs) (.agg as.toArray)
  | tup (xs : List V) (as : List Value) : RVs ι D xs as → RV ι D (.tup xs) (.tuple as.toArray)
inductive RVs (ι : Inj) (D : Nat → Prop) : List V → List Value → Prop
  | nil : RVs ι D [] []
  | cons (v : V) (c : Value) (vs : List V) (cs : List Value) : RV ι D v c → RVs ι D vs cs → RVs ι D (v :: vs) (c :: cs)
end

variable {ι ι' : Inj} {D D' : Nat → Prop}

/-- The second place is as the first one, on what the first one has. -/
def Ext (ι : Inj) (D : Nat → Prop) (ι' : Inj) (D' : Nat → Prop) : Prop := ∀ i, D i → D' i ∧ ι' i = ι i

theorem Ext.refl : Ext ι D ι D := fun _ h => ⟨h, rfl⟩
theorem Ext.trans {ι₁ ι₂ ι₃ : Inj} {D₁ D₂ D₃ : Nat → Prop} (h : Ext ι₁ D₁ ι₂ D₂) (k : Ext ι₂ D₂ ι₃ D₃) : Ext ι₁ D₁ ι₃ D₃ :=
  fun i hi => let ⟨a, b⟩ := h i hi; let ⟨c, d⟩ := k i a; ⟨c, d.trans b⟩

mutual
theorem RV.ext (he : Ext ι D ι' D') {v : V} {c : Value} : RV ι D v c → RV ι' D' v c
  | .b x => .b x
  | .i k n => .i k n
  | .s a => .s a
  | .p0 => .p0
  | .p id o h => by have ⟨h1, h2⟩ := he id h; rw [← h2]; exact .p id o h1
  | .sl0 es => .sl0 es
  | .sl es id o k len cap ccap h a1 a2 a3 a4 => by have ⟨h1, h2⟩ := he id h; rw [← h2] at a4; exact .sl es id o k len cap ccap h1 a1 a2 a3 a4
  | .m0 => .m0
  | .m id h => by have ⟨h1, h2⟩ := he id h; rw [← h2]; exact .m id h1
  | .f fn xs ys as bs h1 h2 => .f fn xs ys as bs (RVs.ext he h1) (RVs.ext he h2)
  | .nf => .nf
  | .y id h => by have ⟨h1, h2⟩ := he id h; rw [← h2]; exact .y id h1
  | .ifc t v c h => .ifc t v c (RV.ext he h)
  | .ni => .ni
  | .agg xs as h => .agg xs as (RVs.ext he h)
  | .tup xs as h => .tup xs as (RVs.ext he h)
theorem RVs.ext (he : Ext ι D ι' D') {vs : List V} {cs : List Value} : RVs ι D vs cs → RVs ι' D' vs cs
  | .nil => .nil
  | .cons v c vs cs h1 h2 => .cons v c vs cs (RV.ext he h1) (RVs.ext he h2)
end

theorem RVs.length {vs : List V} {cs : List Value} (h : RVs ι D vs cs) : vs.length = cs.length := by
  induction vs generalizing cs with
  | nil => cases h; rfl
  | cons v vs ih => cases h with | cons _ c _ cs h1 h2 => simp [ih h2]

theorem RVs.get {vs : List V} {cs : List Value} (h : RVs ι D vs cs) : ∀ (j : Nat) (v : V), vs[j]? = some v → ∃ c, cs[j]? = some c ∧ RV ι D v c := by
  induction vs generalizing cs with
  | nil => intro j v hj; simp at hj
  | cons x vs ih =>
    cases h with
    | cons _ c _ cs h1 h2 =>
      intro j v hj
      cases j with
      | zero => simp at hj; subst hj; exact ⟨c, by simp, h1⟩
      | succ j => simp at hj; obtain ⟨c', e, r⟩ := ih h2 j v hj; exact ⟨c', by simpa using e, r⟩

theorem RVs.of_get {vs : List V} : ∀ {cs : List Value}, vs.length = cs.length → (∀ (j : Nat) (v : V), vs[j]? = some v → ∃ c, cs[j]? = some c ∧ RV ι D v c) → RVs ι D vs cs := by
  induction vs with
  | nil => intro cs hl _; cases cs with | nil => exact .nil | cons _ _ => simp at hl
  | cons x vs ih =>
    intro cs hl h
    cases cs with
    | nil => simp at hl
    | cons c cs =>
      obtain ⟨c', e, r⟩ := h 0 x (by simp)
      simp at e; subst e
      exact .cons _ _ _ _ r (ih (by simpa using hl) fun j v hj => by
        obtain ⟨c', e, r⟩ := h (j + 1) v (by simpa using hj)
        exact ⟨c', by simpa using e, r⟩)

theorem RVs.append {vs us : List V} {cs ds : List Value} (h : RVs ι D vs cs) (k : RVs ι D us ds) : RVs ι D (vs ++ us) (cs ++ ds) := by
  induction vs generalizing cs with
  | nil => cases h; simpa using k
  | cons x vs ih => cases h with | cons _ c _ cs h1 h2 => exact .cons _ _ _ _ h1 (ih h2)

theorem RVs.take {vs : List V} {cs : List Value} (n : Nat) (h : RVs ι D vs cs) : RVs ι D (vs.take n) (cs.take n) := by
  induction vs generalizing cs n with
  | nil => cases h; simp; exact .nil
  | cons x vs ih => cases h with | cons _ c _ cs h1 h2 => cases n with | zero => simp; exact .nil | succ n => simp; exact .cons _ _ _ _ h1 (ih n h2)

theorem RVs.drop {vs : List V} {cs : List Value} (n : Nat) (h : RVs ι D vs cs) : RVs ι D (vs.drop n) (cs.drop n) := by
  induction vs generalizing cs n with
  | nil => cases h; simp; exact .nil
  | cons x vs ih => cases h with | cons _ c _ cs h1 h2 => cases n with | zero => simp; exact .cons _ _ _ _ h1 h2 | succ n => simp; exact ih n h2

/-- The cells of related values are related. -/
theorem RV.cells {v : V} {c : Value} (h : RV ι D v c) : RVs ι D v.cells c.cells.toList := by
  cases h <;> simp only [V.cells, Value.cells] <;> first | assumption | exact .cons _ _ _ _ (.y _ (by assumption)) .nil | exact .cons _ _ _ _ (by constructor <;> assumption) .nil

theorem RV.one {v : V} {c : Value} (h : RV ι D v c) (h1 : v.one = true) : c.oneCell' = true := by
  cases h <;> first | rfl | cases h1

/-- Entries of a map: their keys and values; each was born at another time, ahead of the clock. -/
structure REs (ι : Inj) (D : Nat → Prop) (es : List (V × V)) (ms : List MapEntry) (clock : Nat) : Prop where
  keys : RVs ι D (es.map (·.1)) (ms.map (·.key))
  vals : RVs ι D (es.map (·.2)) (ms.map (·.val))
  born : ms.Pairwise fun a b => a.born < b.born
  old : ∀ m ∈ ms, m.born < clock

/-- An object and what lies in the world in its place. -/
def RObj (P : Program) (ι : Inj) (D : Nat → Prop) (w : World) (pl : Pl) : AO → Prop
  | .cells md cs => ∃ c e fr, w.heap[pl.b]? = some (.cells c e fr) ∧ c.size = pl.n ∧ pl.o + cs.length ≤ pl.n ∧
      (∀ v ∈ cs, v.one = true) ∧ RVs ι D cs ((c.toList.drop pl.o).take cs.length) ∧
      (md = .rw → fr = (0, 0)) ∧ (md = .rws → ∀ k, k < c.size → ¬ (fr.1 ≤ k ∧ k < fr.2))
  | .map es => pl.o = 0 ∧ ∃ ms clock, w.heap[pl.b]? = some (.map ms clock) ∧ REs ι D es ms.toList clock
  | .iter l pos => pl.o = 0 ∧ ∃ s : ByteArray, w.heap[pl.b]? = some (.stringIter s pos) ∧ s.data.toList = l
  | .mbox r => pl.o = 0 ∧ (∃ e, w.heap[pl.b]? = some (.cells #[.map (r.map fun id => (ι id).b)] e (0, 0))) ∧ ∀ id, r = some id → D id
  | .miter r => pl.o = 0 ∧ (∃ s l, w.heap[pl.b]? = some (.mapIter (r.map fun id => (ι id).b) s #[] l)) ∧ ∀ id, r = some id → D id
  | .bld T r n => pl.o = 0 ∧ ∃ p v, w.heap[pl.b]? = some (.cells #[p, v] T (0, 0)) ∧ (p = .pointer none ∨ p = .pointer (some ⟨pl.b, 0, none⟩)) ∧ (r = none → n = 0 ∧ v = .slice none 0 0) ∧ ∀ id, r = some id → v = .slice (some ⟨(ι id).b, 0, none⟩) n (ι id).n ∧ D id
  | .bbuf e l => pl.o = 0 ∧ ∃ cur fz, w.heap[pl.b]? = some (.cells cur e fz) ∧ cur.size = pl.n ∧ fz.2 ≤ l.length ∧ l.length ≤ pl.n ∧ pl.n ≤ maxLen ∧ cur.toList.take l.length = l.map fun c => .int .u8 c.toNat
  | .loop st pend f k env => pl.o = 0 ∧ ∃ r n, w.heap[pl.b]? = some (.loop r) ∧ siteAt P f k = some (n, r.params, r.assign, r.body) ∧ r.state = st ∧ r.pending = pend.map jumpOf ∧ r.tmps.size = n ∧
      ∀ t v, env.get t = some v → ∃ c, r.tmps[t]? = some c ∧ RV ι D v c
  | .dead => True

def AO.owns : AO → Bool
  | .cells .ro _ => false
  | .dead => false
  | _ => true
def AO.live : AO → Bool
  | .dead => false
  | _ => true

/-- The whole: W0 is the world in which all began: what lay there then lies there still. -/
structure Rel (P : Program) (W0 : World) (ι : Inj) (D : Nat → Prop) (H : AH) (w : World) : Prop where
  objs : ∀ i o, H.get i = some o → RObj P ι D w (ι i) o
  dom : ∀ i o, H.get i = some o → o.live = true → D i
  lt : ∀ i, D i → i < H.next
  get_lt : ∀ i o, H.get i = some o → i < H.next
  apart : ∀ i j o u, H.get i = some o → H.get j = some u → o.owns = true → u.live = true → i ≠ j → (ι i).b ≠ (ι j).b
  new : ∀ i o, H.get i = some o → o.owns = true → W0.heap.size ≤ (ι i).b
  inw : ∀ i, D i → (ι i).b < w.heap.size
  below : Below W0.heap.size W0 w

/-- A block that some object owns. -/
def Owned (ι : Inj) (H : AH) (b : Nat) : Prop := ∃ i o, H.get i = some o ∧ o.owns = true ∧ (ι i).b = b

/-- A block where something lies that is still there. -/
def LiveAt (ι : Inj) (H : AH) (b : Nat) : Prop := ∃ i o, H.get i = some o ∧ o.live = true ∧ (ι i).b = b

/-- From one state to another one: what was there is in its place; what nobody owned lies as it did. -/
structure Stp (ι : Inj) (D : Nat → Prop) (H : AH) (w : World) (ι' : Inj) (D' : Nat → Prop) (H' : AH) (w' : World) : Prop where
  ext : Ext ι D ι' D'
  newd : ∀ i, D' i → D i ∨ H.next ≤ i
  next : H.next ≤ H'.next
  keep : ∀ b, b < w.heap.size → ¬ Owned ι H b → w'.heap[b]? = w.heap[b]?
  own : ∀ b, b < w.heap.size → Owned ι' H' b → Owned ι H b
  live : ∀ b, b < w.heap.size → LiveAt ι' H' b → LiveAt ι H b
  size : w.heap.size ≤ w'.heap.size
  os : w'.os = w.os
  tape : w'.tape = w.tape
  output : w'.output = w.output

theorem Stp.refl {H : AH} {w : World} : Stp ι D H w ι D H w :=
  ⟨Ext.refl, fun _ h => .inl h, Nat.le_refl _, fun _ _ _ => rfl, fun _ _ h => h, fun _ _ h => h, Nat.le_refl _, rfl, rfl, rfl⟩

theorem Stp.trans {ι₁ ι₂ ι₃ : Inj} {D₁ D₂ D₃ : Nat → Prop} {H₁ H₂ H₃ : AH} {w₁ w₂ w₃ : World} (h : Stp ι₁ D₁ H₁ w₁ ι₂ D₂ H₂ w₂) (k : Stp ι₂ D₂ H₂ w₂ ι₃ D₃ H₃ w₃) :
    Stp ι₁ D₁ H₁ w₁ ι₃ D₃ H₃ w₃ := by
  refine ⟨h.ext.trans k.ext, fun i hi => ?_, Nat.le_trans h.next k.next, fun b hb ho => ?_, fun b hb ho => ?_, fun b hb ho => h.live b hb (k.live b (Nat.lt_of_lt_of_le hb h.size) ho), Nat.le_trans h.size k.size, k.os.trans h.os, k.tape.trans h.tape, k.output.trans h.output⟩
  · rcases k.newd i hi with h1 | h1
    · exact h.newd i h1
    · exact .inr (Nat.le_trans h.next h1)
  · rw [k.keep b (Nat.lt_of_lt_of_le hb h.size) (fun h1 => ho (h.own b hb h1)), h.keep b hb ho]
  · exact h.own b hb (k.own b (Nat.lt_of_lt_of_le hb h.size) ho)

/-- Registers. -/
structure REnv (ds : List Deferred) (ι : Inj) (D : Nat → Prop) (N : Nat) (env : Env) (a : Act) : Prop where
  size : a.tmps.size = N
  defers : a.defers = ds
  regs : ∀ t v, env.get t = some v → ∃ c, a.tmps[t]? = some c ∧ RV ι D v c

theorem REnv.ext {N : Nat} {ds : List Deferred} {env : Env} {a : Act} (he : Ext ι D ι' D') (h : REnv ds ι D N env a) : REnv ds ι' D' N env a :=
  ⟨h.size, h.defers, fun t v hv => let ⟨c, e, r⟩ := h.regs t v hv; ⟨c, e, r.ext he⟩⟩

theorem REnv.put {N : Nat} {ds : List Deferred} {env : Env} {a : Act} {d : Nat} {v : V} {c : Value} (h : REnv ds ι D N env a) (hd : d < N) (hv : RV ι D v c) : REnv ds ι D N (env.set d v) (a.put (some d) c) := by
  refine ⟨by simp [Act.put, h.size], by simp [Act.put, h.defers], fun t u hu => ?_⟩
  rw [Tr.get_set] at hu
  by_cases e : t = d
  · subst e
    simp at hu; subst hu
    exact ⟨c, by simp [Act.put, h.size, hd], hv⟩
  · rw [if_neg e] at hu
    obtain ⟨c', h1, h2⟩ := h.regs t u hu
    refine ⟨c', ?_, h2⟩
    simp only [Act.put]
    rw [Array.getElem?_setIfInBounds_ne (by omega)]
    exact h1

/-- Constants. -/
def V.ofScalar : Value → Option V
  | .bool x => some (.b x)
  | .int k n => some (.i k n)
  | .string a => some (.s a.data.toList)
  | .pointer none => some (.p none)
  | .map none => some (.m none)
  | .nilFunc => some .nf
  | .nilIface => some .ni
  | _ => none
/-- 'es': the cells of an element, if it is a nil slice. -/
def V.ofScalarS (es : Nat) : Value → Option V
  | .slice none 0 0 => some (.sl es none 0 0)
  | v => V.ofScalar v
end Ram

/- The operations of the abstract machine, and how the model's operations become these. -/
namespace Ram
open Go
open Go.RowKit (Below Hid)

/-- Cells written over others, from a place on. -/
def splice (cs : List V) (at_ : Nat) (vs : List V) : List V := cs.take at_ ++ vs ++ cs.drop (at_ + vs.length)

/-- The kind of a plain cell. -/
inductive KK where
  | i | b | s
/-- What a key is: one plain value, or a struct of these. -/
inductive KS where
  | one (k : KK)
  | flat (l : List (Nat × KK))

inductive PureOp where
  | mv (x : X)
  | mvS (x : X)
  | pick (c a b : X)
  | build (zs : List V) (parts : List (Nat × Nat × X))
  | nilCheck (x : X)
  | fieldAddr (off : Nat) (x : X)
  | idxAddrSl (es : Nat) (x i : X)
  | idxAddrArr (len es : Nat) (x i : X)
  | field (agg : Bool) (off n : Nat) (x : X)
  | idxArr (agg : Bool) (len es : Nat) (x i : X)
  | idxStr (x i : X)
  | bin (op : BinOp) (x y : X)
  | eqB (neg : Bool) (x y : X)
  | eqAgg (neg : Bool) (kinds : List (Nat × KK)) (x y : X)
  | isNil (kd : Nat) (neg : Bool) (x y : X)
  | un (op : UnOp) (x : X)
  | conv (k : IntKind) (x : X)
  | mkFunc (f : FuncId) (first captured : List X)
  | slStr (x : X) (lo hi : Option X)
  | slSl (es : Nat) (x : X) (lo hi mx : Option X)
  | lenS (x : X)
  | lenSl (x : X)
  | lenC (n : Nat)
  | mkIface (t : TypeId) (x : X)
  | extract (i : Nat) (x : X)
  | mxmn (mx : Bool) (xs : List X)
  | tassert (t : TypeId) (zero : V) (x : X)

inductive ReadOp where
  | slArr (n es : Nat) (x : X) (lo hi : Option X)
  | ld1 (x : X)
  | ldN (n : Nat) (x : X)
  | lookup (ks : KS) (zero : V) (ok : Bool) (m k : X)
  | lenM (x : X)
  | b2s (x : X)
  | peq (neg : Bool) (x y : X)

inductive AllocOp where
  | newz (zs : List V)
  | newb (T : TypeId)
  | box (x : X)
  | bslice (es len : Nat) (zs : List V) (parts : List (Nat × Nat × X))
  | mkslice (es bytes : Nat) (zs : List V) (l c : X)
  | mkmap
  | s2b (x : X)
  | rangeS (x : X)

inductive ActOp where
  | st (n : Nat) (a x : X)
  | append (es bytes : Nat) (x y : X)
  | mapUpd (ks : KS) (m k v : X)
  | del (ks : KS) (m k : X)
  | clearM (m : X)
  | clearSl (es : Nat) (zs : List V) (x : X)
  | copy (es : Nat) (x y : X)
  | nextS (x : X)
  | rangeM (x : X)
  | nextM (x : X)
  | entryM (x : X)

inductive AOp where
  | pure (o : PureOp)
  | read (o : ReadOp)
  | alloc (o : AllocOp)
  | act (o : ActOp)
  | call (f : FuncId) (xs : List X)
  | callV (f : X) (xs : List X)
  | pan (x : X)

def evs (e : Env) : List X → Option (List V)
  | [] => some []
  | x :: xs => match x.ev e, evs e xs with
    | some v, some vs => some (v :: vs)
    | _, _ => none

def fillV (e : Env) : List V → List (Nat × Nat × X) → Option (List V)
  | cs, [] => some cs
  | cs, (off, size, x) :: r => match x.ev e with
    | some v => if v.cells.length = size ∧ off + size ≤ cs.length then fillV e (splice cs off v.cells) r else none
    | none => none

/-- Whole numbers: one operator. -/
def binI (op : BinOp) (k : IntKind) (a b : Int) : Option V :=
  match op with
  | .add => some (.i k (k.wrap (a + b)))
  | .sub => some (.i k (k.wrap (a - b)))
  | .mul => some (.i k (k.wrap (a * b)))
  | .quo => if b = 0 then none else some (.i k (k.wrap (a.tdiv b)))
  | .rem => if b = 0 then none else some (.i k (a.tmod b))
  | .and => some (.i k (k.wrap (BitVec.ofInt k.bits a &&& BitVec.ofInt k.bits b).toNat))
  | .or => some (.i k (k.wrap (BitVec.ofInt k.bits a ||| BitVec.ofInt k.bits b).toNat))
  | .xor => some (.i k (k.wrap (BitVec.ofInt k.bits a ^^^ BitVec.ofInt k.bits b).toNat))
  | .andNot => some (.i k (k.wrap (BitVec.ofInt k.bits a &&& ~~~ BitVec.ofInt k.bits b).toNat))
  | .eql => some (.b (a == b))
  | .neq => some (.b (a != b))
  | .lss => some (.b (a < b))
  | .leq => some (.b (a ≤ b))
  | .gtr => some (.b (a > b))
  | .geq => some (.b (a ≥ b))
  | _ => none

def binS (op : BinOp) (a b : List UInt8) : Option V :=
  match op with
  | .add => if (a.length + b.length : Int) ≤ 9223372036854775807 then some (.s (a ++ b)) else none
  | .eql => some (.b (a == b))
  | .neq => some (.b (!(a == b)))
  | .lss => some (.b (Op.bytesLess a b))
  | .leq => some (.b (Op.bytesLess a b || (a == b)))
  | .gtr => some (.b (!(Op.bytesLess a b || (a == b))))
  | .geq => some (.b (!(Op.bytesLess a b)))
  | _ => none

/-- Cells of plain values: alike? -/
def sameCell : KK → V → V → Option Bool
  | .i, .i k a, .i k' b => if k = k' then some (a == b) else none
  | .b, .b a, .b b => some (a == b)
  | .s, .s a, .s b => some (a == b)
  | _, _, _ => none
def sameAt : List (Nat × KK) → List V → List V → Option Bool
  | [], _, _ => some true
  | (o, kk) :: r, xs, ys => match xs[o]?, ys[o]? with
    | some x, some y => match sameCell kk x y with
      | some true => sameAt r xs ys
      | some false => some false
      | none => none
    | _, _ => none
def sameKey : KS → V → V → Option Bool
  | .one kk, x, y => sameCell kk x y
  | .flat l, .agg xs, .agg ys => if xs.length = l.length ∧ ys.length = l.length then sameAt l xs ys else none
  | .flat _, _, _ => none

/-- The greatest, or the least. -/
def mxL (mx : Bool) : Int → List V → Option Int
  | m, [] => some m
  | m, .i _ n :: r => mxL mx (if mx then (if n > m then n else m) else (if n < m then n else m)) r
  | _, _ :: _ => none

def bnd (e : Env) (y : Nat) (x : X) : Option Nat :=
  match x.ev e with
  | some (.i _ n) => if 0 ≤ n ∧ n ≤ y then some n.toNat else none
  | _ => none
/-- The bounds of a cut: low, high. -/
def cut2 (e : Env) (len cap : Nat) (lo hi : Option X) : Option (Nat × Nat) :=
  match (match hi with | some x => bnd e cap x | none => some len) with
  | some h => match (match lo with | some x => bnd e h x | none => some 0) with
    | some l => some (l, h)
    | none => none
  | none => none

def apure : PureOp → Env → Option V
  | .mv x, e => x.ev e
  | .mvS x, e => match x.ev e with
    | some (.s l) => some (.s l)
    | _ => none
  | .pick c a b, e => match c.ev e with
    | some (.b true) => a.ev e
    | some (.b false) => b.ev e
    | _ => none
  | .build zs parts, e => match fillV e zs parts with
    | some cs => some (.agg cs)
    | none => none
  | .nilCheck x, e => match x.ev e with
    | some (.p (some a)) => some (.p (some a))
    | some (.f (.func f) a b) => some (.f (.func f) a b)
    | _ => none
  | .fieldAddr off x, e => match x.ev e with
    | some (.p (some (id, o))) => some (.p (some (id, o + off)))
    | _ => none
  | .idxAddrSl es x i, e => match x.ev e, i.ev e with
    | some (.sl es' (some (id, o)) len _), some (.i _ n) => if es' = es ∧ 0 ≤ n ∧ n < len then some (.p (some (id, o + n.toNat * es))) else none
    | _, _ => none
  | .idxAddrArr len es x i, e => match x.ev e, i.ev e with
    | some (.p (some (id, o))), some (.i _ n) => if 0 ≤ n ∧ n < len then some (.p (some (id, o + n.toNat * es))) else none
    | _, _ => none
  | .field agg off n x, e => match x.ev e with
    | some (.agg cs) => if agg then some (.agg ((cs.drop off).take n)) else cs[off]?
    | _ => none
  | .idxArr agg len es x i, e => match x.ev e, i.ev e with
    | some (.agg cs), some (.i _ n) => if 0 ≤ n ∧ n < len then (if agg then some (.agg ((cs.drop (n.toNat * es)).take es)) else cs[n.toNat * es]?) else none
    | _, _ => none
  | .idxStr x i, e => match x.ev e, i.ev e with
    | some (.s l), some (.i _ n) => if 0 ≤ n then (match l[n.toNat]? with | some c => some (.i .u8 c.toNat) | none => none) else none
    | _, _ => none
  | .bin op x y, e => match x.ev e, y.ev e with
    | some (.i k a), some (.i k' b) => match op with
      | .shl => if b < 0 then none else some (.i k (k.wrap (a * 2 ^ (min b.toNat k.bits))))
      | .shr => if b < 0 then none else some (.i k (a.fdiv (2 ^ (min b.toNat k.bits))))
      | op => if k = k' then binI op k a b else none
    | some (.s a), some (.s b) => binS op a b
    | _, _ => none
  | .eqB neg x y, e => match x.ev e, y.ev e with
    | some (.b a), some (.b b) => some (.b (if neg then !(a == b) else a == b))
    | _, _ => none
  | .eqAgg neg kinds x y, e => match x.ev e, y.ev e with
    | some (.agg xs), some (.agg ys) => match sameAt kinds xs ys with
      | some r => some (.b (if neg then !r else r))
      | none => none
    | _, _ => none
  | .isNil kd neg x y, e => match kd, x.ev e, y.ev e with
    | 0, some (.sl _ a _ _), some (.sl _ none _ _) => some (.b (if neg then !a.isNone else a.isNone))
    | 1, some (.m a), some (.m none) => some (.b (if neg then !a.isNone else a.isNone))
    | 2, some .nf, some .nf => some (.b (!neg))
    | 2, some (.f _ _ _), some .nf => some (.b neg)
    | _, _, _ => none
  | .un op x, e => match op, x.ev e with
    | .not, some (.b a) => some (.b (!a))
    | .neg, some (.i k n) => some (.i k (k.wrap (0 - n)))
    | .xor, some (.i k n) => binI .xor k (if k.signed then -1 else k.max) n
    | _, _ => none
  | .conv k x, e => match x.ev e with
    | some (.i _ n) => some (.i k (k.wrap n))
    | _ => none
  | .mkFunc f a b, e => match evs e a, evs e b with
    | some as, some bs => some (.f (.func f) as bs)
    | _, _ => none
  | .slStr x lo hi, e => match x.ev e with
    | some (.s l) => match cut2 e l.length l.length lo hi with
      | some (a, b) => some (.s ((l.drop a).take (b - a)))
      | none => none
    | _ => none
  | .slSl es x lo hi mx, e => match x.ev e with
    | some (.sl es' a len cap) => match mx with
      | none => match cut2 e len cap lo hi with
        | some (l, h) => match a with
          | some (id, o) => if es' = es then some (.sl es (some (id, o + l * es)) (h - l) (cap - l)) else none
          | none => some (.sl es' none 0 0)
        | none => none
      | some m => match bnd e cap m with
        | some m => match cut2 e len m lo hi with
          | some (l, h) => match hi, a with
            | some _, some (id, o) => if es' = es then some (.sl es (some (id, o + l * es)) (h - l) (m - l)) else none
            | some _, none => some (.sl es' none 0 0)
            | none, _ => none
          | none => none
        | none => none
    | _ => none
  | .lenS x, e => match x.ev e with
    | some (.s l) => some (.i .i64 l.length)
    | _ => none
  | .lenSl x, e => match x.ev e with
    | some (.sl _ _ n _) => some (.i .i64 n)
    | _ => none
  | .lenC n, _ => some (.i .i64 n)
  | .mkIface t x, e => match x.ev e with
    | some v => some (.ifc t v)
    | none => none
  | .extract i x, e => match x.ev e with
    | some (.tup vs) => vs[i]?
    | _ => none
  | .mxmn mx xs, e => match evs e xs with
    | some (.i k a :: r) => match mxL mx a r with
      | some m => some (.i k m)
      | none => none
    | _ => none
  | .tassert t zero x, e => match x.ev e with
    | some (.ifc t' v) => some (if t' = t then .tup [v, .b true] else .tup [zero, .b false])
    | some .ni => some (.tup [zero, .b false])
    | _ => none

/-- Cells of a row. -/
def ldCells (H : AH) (id o n : Nat) : Option (List V) :=
  match H.get id with
  | some (.cells _ cs) => if o + n ≤ cs.length then some ((cs.drop o).take n) else none
  | _ => none

/-- May it be a key? -/
def keyOk : KS → V → Bool
  | .one _, _ => true
  | .flat l, .agg xs => l.all fun p => decide (p.1 < xs.length)
  | .flat _, _ => false

/-- The place of a key. -/
def findV (ks : KS) (k : V) : List (V × V) → Option (Option (Nat × V))
  | [] => some none
  | (k', v) :: r =>
    match sameKey ks k k' with
    | some true => some (some (0, v))
    | some false => match findV ks k r with
      | some (some (i, v)) => some (some (i + 1, v))
      | some none => some none
      | none => none
    | none => none

def asBytes : List V → Option (List UInt8)
  | [] => some []
  | .i .u8 n :: r => match asBytes r with
    | some l => some (UInt8.ofNat n.toNat :: l)
    | none => none
  | _ :: _ => none

def aread : ReadOp → Env → AH → Option V
  | .slArr n es x lo hi, e, H => match x.ev e with
    | some (.p (some (id, o))) => match H.get id, cut2 e n n lo hi with
      | some (.cells _ cs), some (l, h) => if o + n * es ≤ cs.length then some (.sl es (some (id, o + l * es)) (h - l) (n - l)) else none
      | _, _ => none
    | _ => none
  | .ld1 x, e, H => match x.ev e with
    | some (.p (some (id, o))) => match H.get id with
      | some (.cells _ cs) => cs[o]?
      | _ => none
    | _ => none
  | .ldN n x, e, H => match x.ev e with
    | some (.p (some (id, o))) => match ldCells H id o n with
      | some cs => some (.agg cs)
      | none => none
    | _ => none
  | .lookup ks zero ok m k, e, H => match m.ev e, k.ev e with
    | some (.m none), some k => if keyOk ks k then some (if ok then .tup [zero, .b false] else zero) else none
    | some (.m (some id)), some k => if keyOk ks k then match H.get id with
      | some (.map es) => match findV ks k es with
        | some (some (_, v)) => some (if ok then .tup [v, .b true] else v)
        | some none => some (if ok then .tup [zero, .b false] else zero)
        | none => none
      | _ => none else none
    | _, _ => none
  | .lenM x, e, H => match x.ev e with
    | some (.m none) => some (.i .i64 0)
    | some (.m (some id)) => match H.get id with
      | some (.map es) => some (.i .i64 es.length)
      | _ => none
    | _ => none
  | .b2s x, e, H => match x.ev e with
    | some (.sl _ none _ _) => some (.s [])
    | some (.sl 1 (some (id, o)) len _) => match ldCells H id o len with
      | some cs => match asBytes cs with
        | some l => some (.s l)
        | none => none
      | none => none
    | _ => none
  | .peq neg x y, e, H => match x.ev e, y.ev e with
    | some (.p none), some (.p a) => some (.b (if neg then !a.isNone else a.isNone))
    | some (.p (some _)), some (.p none) => some (.b neg)
    | some (.p (some (i, o))), some (.p (some (j, u))) =>
      if i = j then some (.b (if neg then !(o == u) else o == u)) else
      match H.get i, H.get j with
      | some (.cells .rw _), some (.cells .rw _) => some (.b neg)
      | _, _ => none
    | _, _ => none

/-- A new object, and what points to it, by its number. -/
def aalloc : AllocOp → Env → Option (AO × (Nat → V))
  | .newz zs, _ => some (.cells .rw zs, fun id => .p (some (id, 0)))
  | .newb T, _ => some (.bld T none 0, fun id => .p (some (id, 0)))
  | .box x, e => match x.ev e with
    | some v => if v.cells.all V.one then some (.cells .rw v.cells, fun id => .p (some (id, 0))) else none
    | none => none
  | .bslice es len zs parts, e => match fillV e zs parts with
    | some cs => if cs.all V.one then some (.cells .rw cs, fun id => .sl es (some (id, 0)) len len) else none
    | none => none
  | .mkslice es bytes zs l c, e => match l.ev e, c.ev e with
    | some (.i .i64 l), some (.i .i64 c) =>
      if 0 ≤ l ∧ l ≤ c ∧ c * bytes ≤ 140737488355328 ∧ c ≤ 9223372036854775807 then
        some (.cells .rw ((List.replicate c.toNat zs).flatten), fun id => .sl es (some (id, 0)) l.toNat c.toNat) else none
    | _, _ => none
  | .mkmap, _ => some (.map [], fun id => .m (some id))
  | .s2b x, e => match x.ev e with
    | some (.s l) => if l.length ≤ 9223372036854775807 then some (.cells .rws (l.map fun c => .i .u8 c.toNat), fun id => .sl 1 (some (id, 0)) l.length l.length) else none
    | _ => none
  | .rangeS x, e => match x.ev e with
    | some (.s l) => some (.iter l 0, fun id => .p (some (id, 0)))
    | _ => none

/-- The cells that an append adds: of a slice, or of a string. -/
def newCells (H : AH) (es : Nat) : V → Option (Nat × List V)
  | .sl _ none _ _ => some (0, [])
  | .sl es' (some (id, o)) len _ => if es' = es then (match ldCells H id o (len * es) with | some cs => some (len, cs) | none => none) else none
  | .s l => if es = 1 then some (l.length, l.map fun c => .i .u8 c.toNat) else none
  | _ => none

def aact : ActOp → Env → AH → Option (V × AH)
  | .st n a x, e, H => match a.ev e, x.ev e with
    | some (.p (some (id, o))), some v => match H.get id with
      | some (.cells md cs) => if md ≠ .ro ∧ v.cells.length = n ∧ v.cells.all V.one = true ∧ o + n ≤ cs.length then some (.tup [], H.set id (.cells md (splice cs o v.cells))) else none
      | _ => none
    | _, _ => none
  | .append es bytes x y, e, H => match x.ev e, y.ev e with
    | some (.sl es' a len cap), some y => match newCells H es y with
      | some (m, xs) =>
        if ((len + m) * bytes ≤ 140737488355328 ∧ len + m ≤ 9223372036854775807) then
        match a with
        | none => if m = 0 then some (.sl es' none 0 0, H) else some (.sl es (some (H.next, 0)) m m, H.alloc (.cells .rw xs))
        | some (id, o) =>
          if es' ≠ es then none else
          if m = 0 then some (.sl es (some (id, o)) len cap, H) else
          match H.get id with
          | some (.cells md cs) =>
            if md = .ro then none else
            if len + m ≤ cap then
              if o + (len + m) * es ≤ cs.length then some (.sl es (some (id, o)) (len + m) cap, H.set id (.cells md (splice cs (o + len * es) xs))) else none
            else if o + len * es = cs.length then
              some (.sl es (some (H.next, 0)) (len + m) (len + m), (H.set id .dead).alloc (.cells md (cs.drop o ++ xs)))
            else none
          | _ => none
        else none
      | none => none
    | _, _ => none
  | .mapUpd ks m k v, e, H => match m.ev e, k.ev e, v.ev e with
    | some (.m (some id)), some k, some v => if keyOk ks k then match H.get id with
      | some (.map es) => match findV ks k es with
        | some (some (i, _)) => some (.tup [], H.set id (.map (es.set i (k, v))))
        | some none => some (.tup [], H.set id (.map (es ++ [(k, v)])))
        | none => none
      | _ => none else none
    | _, _, _ => none
  | .del ks m k, e, H => match m.ev e, k.ev e with
    | some (.m none), some k => if keyOk ks k then some (.tup [], H) else none
    | some (.m (some id)), some k => if keyOk ks k then match H.get id with
      | some (.map es) => match findV ks k es with
        | some (some (i, _)) => some (.tup [], H.set id (.map (es.eraseIdx i)))
        | some none => some (.tup [], H)
        | none => none
      | _ => none else none
    | _, _ => none
  | .clearM m, e, H => match m.ev e with
    | some (.m none) => some (.tup [], H)
    | some (.m (some id)) => match H.get id with
      | some (.map _) => some (.tup [], H.set id (.map []))
      | _ => none
    | _ => none
  | .clearSl es zs x, e, H => match x.ev e with
    | some (.sl _ none _ _) => some (.tup [], H)
    | some (.sl _ _ 0 _) => some (.tup [], H)
    | some (.sl es' (some (id, o)) len _) => match H.get id with
      | some (.cells md cs) => if es' = es ∧ md ≠ .ro ∧ o + len * es ≤ cs.length then some (.tup [], H.set id (.cells md (splice cs o ((List.replicate len zs).flatten)))) else none
      | _ => none
    | _ => none
  | .copy es x y, e, H => match x.ev e, y.ev e with
    | some (.sl es' a len _), some y => match newCells H es y with
      | some (m, xs) => match a with
        | none => some (.i .i64 0, H)
        | some (id, o) => match H.get id with
          | some (.cells md cs) =>
            if es' = es ∧ md ≠ .ro ∧ o + min m len * es ≤ cs.length then some (.i .i64 (min m len : Nat), H.set id (.cells md (splice cs o (xs.take (min m len * es))))) else none
          | _ => none
      | none => none
    | _, _ => none
  | .nextS x, e, H => match x.ev e with
    | some (.p (some (id, 0))) => match H.get id with
      | some (.iter l pos) =>
        if pos < l.length then
          some (.tup [.b true, .i .i64 pos, .i .i32 (Utf8.decode ⟨l.toArray⟩ pos).1], H.set id (.iter l (pos + (Utf8.decode ⟨l.toArray⟩ pos).2)))
        else some (.tup [.b false], H)
      | _ => none
    | _ => none
  | .rangeM x, e, H => match x.ev e with
    | some (.m none) => some (.p (some (H.next, 0)), H.alloc (.miter none))
    | some (.m (some id)) => match H.get id with
      | some (.map _) => some (.p (some (H.next, 0)), H.alloc (.miter (some id)))
      | _ => none
    | _ => none
  | .nextM x, e, H => match x.ev e with
    | some (.p (some (i, 0))) => match H.get i with
      | some (.miter none) => some (.tup [.b false], H)
      | some (.miter (some id)) => match H.get id with
        | some (.map []) => some (.tup [.b false], H)
        | _ => none
      | _ => none
    | _ => none
  | .entryM _, _, _ => none

/-- One operation that calls nothing. -/
def arun : AOp → Env → AH → Option (V × AH)
  | .pure o, e, H => match apure o e with
    | some v => some (v, H)
    | none => none
  | .read o, e, H => match aread o e H with
    | some v => some (v, H)
    | none => none
  | .alloc o, e, H => match aalloc o e with
    | some (obj, mk) => some (mk H.next, H.alloc obj)
    | none => none
  | .act o, e, H => aact o e H
  | _, _, _ => none
end Ram

/- How the model's operations become the abstract machine's. -/
namespace Ram
open Go
open Go.RowKit (Below Hid)

def scalars : List Value → Option (List V)
  | [] => some []
  | .slice none 0 0 :: r => match scalars r with
    | some l => some (.sl 0 none 0 0 :: l)
    | none => none
  | c :: r => match V.ofScalar c, scalars r with
    | some v, some l => some (v :: l)
    | _, _ => none
def V.ofConst : Value → Option V
  | .agg cs => match scalars cs.toList with
    | some l => some (.agg l)
    | none => none
  | .tuple vs => match scalars vs.toList with
    | some l => some (.tup l)
    | none => none
  | .slice none 0 0 => some (.sl 0 none 0 0)
  | c => V.ofScalar c

def cX : Operand → Option X
  | .tmp t => some (.t t)
  | .const v => match V.ofConst v with
    | some v => some (.c v)
    | none => none
  | .func f => some (.fn f)
  | .global _ => none
def cXs : List Operand → Option (List X)
  | [] => some []
  | o :: r => match cX o, cXs r with
    | some x, some l => some (x :: l)
    | _, _ => none
def cXo : Option Operand → Option (Option X)
  | none => some none
  | some o => match cX o with
    | some x => some (some x)
    | none => none

section
variable (P : Program)

def isAggT (t : TypeId) : Option Bool :=
  match P.underlying t with
  | some (.struct _) | some (.array _ _) => some true
  | some _ => some false
  | none => none
def sizeT (t : TypeId) : Option Nat := (P.info? t).map (·.size)
def bytesT (t : TypeId) : Option Nat := (P.info? t).map (·.bytes)
def zeroT (t : TypeId) : Option (List V) :=
  match (P.info? t).map (·.zero) with
  | some (some z) => scalars z.cells.toList
  | _ => none
/-- A strings.Builder: a pointer to itself, a row. -/
def isBld (t : TypeId) : Bool :=
  match P.underlying t with
  | some (.struct fs) => match fs.toList with
    | [a, _] => match P.underlying a.type with
      | some (.pointer u) => u == t
      | _ => false
    | _ => false
  | _ => false
def isBldZ : List V → Bool
  | [.p none, .sl _ none 0 0] => true
  | _ => false
def zeroV (t : TypeId) : Option V :=
  match (P.info? t).map (·.zero) with
  | some (some z) => V.ofConst z
  | _ => none

/-- Whole numbers, truth values, texts. -/
def kindT (t : TypeId) : Option KK :=
  match P.underlying t with
  | some .bool => some .b
  | some (.int _) => some .i
  | some .string => some .s
  | _ => none
def flatFs : List Field → Option (List (Nat × KK))
  | [] => some []
  | f :: r => if f.name = "_" then none else match kindT P f.type, flatFs r with
    | some kk, some l => some ((f.offset, kk) :: l)
    | _, _ => none
/-- The cells of a struct whose values are alike just if these are. -/
def flatT (t : TypeId) : Option (List (Nat × KK)) :=
  match P.underlying t with
  | some (.struct fs) => if P.stoodInHeld t then none else flatFs P fs.toList
  | _ => none

def partsS (places : List (Nat × Nat)) : List (Nat × Operand) → Option (List (Nat × Nat × X))
  | [] => some []
  | (i, x) :: r => match places[i]?, cX x, partsS places r with
    | some (o, s), some x, some l => some ((o, s, x) :: l)
    | _, _, _ => none
def partsA (es : Nat) : List (Nat × Operand) → Option (List (Nat × Nat × X))
  | [] => some []
  | (i, x) :: r => match cX x, partsA es r with
    | some x, some l => some ((i * es, es, x) :: l)
    | _, _ => none
def placesOf : List Field → Option (List (Nat × Nat))
  | [] => some []
  | f :: r => match sizeT P f.type, placesOf r with
    | some s, some l => some ((f.offset, s) :: l)
    | _, _ => none

def compBin (op : BinOp) (t : TypeId) (x y : X) : Option AOp :=
  match P.underlying t with
  | some (.int _) | some .string => some (.pure (.bin op x y))
  | some .bool => match op with
    | .eql => some (.pure (.eqB false x y))
    | .neq => some (.pure (.eqB true x y))
    | _ => none
  | some (.pointer e) => match op, sizeT P e with
    | .eql, some (_ + 1) => some (.read (.peq false x y))
    | .neq, some (_ + 1) => some (.read (.peq true x y))
    | _, _ => none
  | some (.slice _) => match op with
    | .eql => some (.pure (.isNil 0 false x y))
    | .neq => some (.pure (.isNil 0 true x y))
    | _ => none
  | some (.map _ _) => match op with
    | .eql => some (.pure (.isNil 1 false x y))
    | .neq => some (.pure (.isNil 1 true x y))
    | _ => none
  | some (.func _ _ _) => match op with
    | .eql => some (.pure (.isNil 2 false x y))
    | .neq => some (.pure (.isNil 2 true x y))
    | _ => none
  | some (.struct _) => match flatT P t, P.eqGuardType P.depth t with
    | some l, false => match op with
      | .eql => some (.pure (.eqAgg false l x y))
      | .neq => some (.pure (.eqAgg true l x y))
      | _ => none
    | _, _ => none
  | _ => none

def keyT (t : TypeId) : Option KS :=
  match kindT P t with
  | some kk => some (.one kk)
  | none => match flatT P t with
    | some l => if l.map (·.1) = List.range l.length then some (.flat l) else none
    | none => none

def compBuiltin (b : Builtin) (t t' : Option TypeId) (args : List X) : Option AOp :=
  match b with
  | .append => match t, t', args with
    | some t, some t', [x, y] => match P.underlying t, P.underlying t' with
      | some (.slice e), some (.slice _) | some (.slice e), some .string => match sizeT P e, bytesT P e, zeroT P e with
        | some (s + 1), some (b + 1), some zs => if zs.length = s + 1 then some (.act (.append (s + 1) (b + 1) x y)) else none
        | _, _, _ => none
      | _, _ => none
    | _, _, _ => none
  | .len => match t, args with
    | some t, [x] => match P.underlying t with
      | some .string => some (.pure (.lenS x))
      | some (.slice _) => some (.pure (.lenSl x))
      | some (.array n _) => some (.pure (.lenC n))
      | some (.map _ _) => some (.read (.lenM x))
      | _ => none
    | _, _ => none
  | .clear => match t, args with
    | some t, [x] => match P.underlying t with
      | some (.map _ _) => some (.act (.clearM x))
      | some (.slice e) => match zeroT P e with
        | some (z :: zs) => if (z :: zs).all V.one then some (.act (.clearSl (zs.length + 1) (z :: zs) x)) else none
        | _ => none
      | _ => none
    | _, _ => none
  | .copy => match t, args with
    | some t, [x, y] => match P.underlying t with
      | some (.slice e) => match sizeT P e with
        | some (s + 1) => some (.act (.copy (s + 1) x y))
        | _ => none
      | _ => none
    | _, _ => none
  | .delete => match t, args with
    | some t, [m, k] => match P.underlying t with
      | some (.map kt _) => match keyT P kt with
        | some fl => some (.act (.del fl m k))
        | none => none
      | _ => none
    | _, _ => none
  | .max => some (.pure (.mxmn true args))
  | .min => some (.pure (.mxmn false args))
  | _ => none

def compConv (src dst : TypeId) (x : X) : Option AOp :=
  match P.underlying src, P.underlying dst with
  | some (.int _), some (.int k) => some (.pure (.conv k x))
  | some .string, some .string => some (.pure (.mvS x))
  | some .string, some (.slice e) => match P.underlying e, sizeT P e with
    | some (.int .u8), some 1 => some (.alloc (.s2b x))
    | _, _ => none
  | some (.slice e), some .string => match P.underlying e with
    | some (.int .u8) => some (.read (.b2s x))
    | _ => none
  | _, _ => none

def compOp (o : Oper) : Option AOp :=
  match o.op with
  | .move x | .assign x => match cX x with
    | some x => some (.pure (.mv x))
    | none => none
  | .pick c a b => match cX c, cX a, cX b with
    | some c, some a, some b => some (.pure (.pick c a b))
    | _, _, _ => none
  | .alloc t => match zeroT P t with
    | some zs => if isBld P t && isBldZ zs then some (.alloc (.newb t)) else if zs.all V.one then some (.alloc (.newz zs)) else none
    | none => none
  | .box _ x => match cX x with
    | some x => some (.alloc (.box x))
    | none => none
  | .build t ps => match P.underlying t, zeroT P t with
    | some (.struct fs), some zs => match placesOf P fs.toList with
      | some pl => match partsS pl ps.toList with
        | some parts => some (.pure (.build zs parts))
        | none => none
      | none => none
    | some (.array _ e), some zs => match sizeT P e with
      | some s => match partsA s ps.toList with
        | some parts => some (.pure (.build zs parts))
        | none => none
      | none => none
    | _, _ => none
  | .buildSlice t len ps => match P.underlying t with
    | some (.slice e) => match sizeT P e, zeroT P e with
      | some (s + 1), some zs => match partsA (s + 1) ps.toList with
        | some parts => if zs.length = s + 1 ∧ len * (s + 1) ≤ 2 ^ 24 ∧ len ≤ maxLen ∧ zs.all V.one then some (.alloc (.bslice (s + 1) len ((List.replicate len zs).flatten) parts)) else none
        | none => none
      | _, _ => none
    | _ => none
  | .load t x => match cX x, isAggT P t, sizeT P t with
    | some x, some true, some n => some (.read (.ldN n x))
    | some x, some false, _ => some (.read (.ld1 x))
    | _, _, _ => none
  | .store t a x => match cX a, cX x, sizeT P t with
    | some a, some x, some n => some (.act (.st n a x))
    | _, _, _ => none
  | .nilCheck x => match cX x with
    | some x => some (.pure (.nilCheck x))
    | none => none
  | .binOp op t x y _ => match cX x, cX y with
    | some x, some y => compBin P op t x y
    | _, _ => none
  | .unOp op _ x => match cX x with
    | some x => some (.pure (.un op x))
    | none => none
  | .convert src dst x => match cX x with
    | some x => compConv P src dst x
    | none => none
  | .makeInterface t x => match cX x, P.underlying t with
    | some _, some (.interface _) => none
    | some x, some _ => some (.pure (.mkIface t x))
    | _, _ => none
  | .makeFunc (.func f) a b => match cXs a.toList, cXs b.toList with
    | some a, some b => some (.pure (.mkFunc f a b))
    | _, _ => none
  | .makeMap _ none => some (.alloc .mkmap)
  | .makeSlice t l c => match P.underlying t, cX l, cX c with
    | some (.slice e), some l, some c => match sizeT P e, bytesT P e, zeroT P e with
      | some (s + 1), some (b + 1), some zs => if zs.length = s + 1 ∧ zs.all V.one then some (.alloc (.mkslice (s + 1) (b + 1) zs l c)) else none
      | _, _, _ => none
    | _, _, _ => none
  | .slice t x lo hi mx => match cX x, cXo lo, cXo hi, cXo mx with
    | some x, some lo, some hi, some mx => match P.underlying t with
      | some .string => match mx with
        | none => some (.pure (.slStr x lo hi))
        | some _ => none
      | some (.slice e) => match sizeT P e with
        | some s => some (.pure (.slSl s x lo hi mx))
        | none => none
      | some (.array n e) => match mx, sizeT P e with
        | none, some s => if n ≤ maxLen then some (.read (.slArr n s x lo hi)) else none
        | _, _ => none
      | _ => none
    | _, _, _, _ => none
  | .fieldAddr t x f => match cX x, P.underlying t with
    | some x, some (.struct fs) => match fs[f]? with
      | some fd => match sizeT P fd.type with
        | some (_ + 1) => some (.pure (.fieldAddr fd.offset x))
        | _ => none
      | none => none
    | _, _ => none
  | .field t x f => match cX x, P.underlying t with
    | some x, some (.struct fs) => match fs[f]? with
      | some fd => match isAggT P fd.type, sizeT P fd.type with
        | some ag, some n => some (.pure (.field ag fd.offset n x))
        | _, _ => none
      | none => none
    | _, _ => none
  | .indexAddr t x i => match cX x, cX i, P.underlying t with
    | some x, some i, some (.slice e) => match sizeT P e with
      | some s => some (.pure (.idxAddrSl s x i))
      | none => none
    | some x, some i, some (.array n e) => match sizeT P e with
      | some s => some (.pure (.idxAddrArr n s x i))
      | none => none
    | _, _, _ => none
  | .index t x i => match cX x, cX i, P.underlying t with
    | some x, some i, some (.array n e) => match isAggT P e, sizeT P e with
      | some ag, some s => some (.pure (.idxArr ag n s x i))
      | _, _ => none
    | some x, some i, some .string => some (.pure (.idxStr x i))
    | _, _, _ => none
  | .lookup t m k ok => match cX m, cX k, P.underlying t with
    | some m, some k, some (.map kt e) => match keyT P kt, zeroV P e with
      | some fl, some z => some (.read (.lookup fl z ok m k))
      | _, _ => none
    | _, _, _ => none
  | .mapUpdate t m k v | .insert t m k v => match cX m, cX k, cX v, P.underlying t with
    | some m, some k, some v, some (.map kt _) => match keyT P kt with
      | some fl => some (.act (.mapUpd fl m k v))
      | none => none
    | _, _, _, _ => none
  | .range t x => match cX x, P.underlying t with
    | some x, some .string => some (.alloc (.rangeS x))
    | some x, some (.map _ _) => some (.act (.rangeM x))
    | _, _ => none
  | .next x true => match cX x with
    | some x => some (.act (.nextS x))
    | none => none
  | .next x false => match cX x with
    | some x => some (.act (.nextM x))
    | none => none
  | .entry x => match cX x with
    | some x => some (.act (.entryM x))
    | none => none
  | .typeAssert x _ asserted true => match cX x, P.underlying asserted, zeroV P asserted with
    | some _, some (.interface _), _ => none
    | some x, some _, some z => some (.pure (.tassert asserted z x))
    | _, _, _ => none
  | .extract x i => match cX x with
    | some x => some (.pure (.extract i x))
    | none => none
  | .call { callee := .builtin b, args, argTypes } => match cXs args.toList with
    | some args => compBuiltin P b argTypes[0]? argTypes[1]? args
    | none => none
  | .call { callee := .value (.func f), args, .. } => match cXs args.toList with
    | some args => some (.call f args)
    | none => none
  | .call { callee := .value g, args, .. } => match cX g, cXs args.toList with
    | some g, some args => some (.callV g args)
    | _, _ => none
  | .panic x => match cX x with
    | some x => some (.pan x)
    | none => none
  | _ => none
end
end Ram

/- Each pure operation of the model yields what the abstract machine says. -/
namespace Ram
open Go
open Go.RowKit (Below Hid)

variable {P : Program} {ι : Inj} {D : Nat → Prop} {N : Nat} {ds : List Deferred} {env : Env} {a : Act}

theorem ofScalar_sound {c : Value} {v : V} (h : V.ofScalar c = some v) : RV ι D v c := by
  unfold V.ofScalar at h
  split at h <;> simp at h <;> subst h <;> constructor

theorem scalars_sound : ∀ {cs : List Value} {vs : List V}, scalars cs = some vs → RVs ι D vs cs := by
  intro cs
  induction cs with
  | nil => intro vs h; simp [scalars] at h; subst h; exact .nil
  | cons c cs ih =>
    intro vs h
    unfold scalars at h
    split at h
    · rename_i heq; cases heq
    · rename_i heq
      obtain ⟨rfl, rfl⟩ := List.cons.inj heq
      split at h
      · rename_i l hl
        simp at h; subst h
        exact .cons _ _ _ _ (.sl0 0) (ih hl)
      · cases h
    · rename_i heq
      obtain ⟨rfl, rfl⟩ := List.cons.inj heq
      split at h
      · rename_i v l hv hl
        simp at h; subst h
        exact .cons _ _ _ _ (ofScalar_sound hv) (ih hl)
      · cases h

theorem ofConst_sound {c : Value} {v : V} (h : V.ofConst c = some v) : RV ι D v c := by
  unfold V.ofConst at h
  split at h
  · next cs =>
    split at h
    · next l hl =>
      simp at h; subst h
      have := RV.agg (ι := ι) (D := D) l cs.toList (scalars_sound hl)
      simpa using this
    · cases h
  · next vs =>
    split at h
    · next l hl =>
      simp at h; subst h
      have := RV.tup (ι := ι) (D := D) l vs.toList (scalars_sound hl)
      simpa using this
    · cases h
  · simp at h; subst h; exact .sl0 0
  · exact ofScalar_sound h

theorem cX_sound {x : Operand} {y : X} {v : V} (hc : cX x = some y) (hv : y.ev env = some v) (he : REnv ds ι D N env a) : RV ι D v (a.eval x) := by
  cases x with
  | tmp t =>
    simp only [cX, Option.some.injEq] at hc; subst hc
    obtain ⟨c, h1, h2⟩ := he.regs t v hv
    simp only [Act.eval, Array.getD_eq_getD_getElem?, h1, Option.getD_some]
    exact h2
  | const c =>
    simp only [cX] at hc
    split at hc
    · rename_i u hu
      simp at hc; subst hc
      simp only [X.ev, Option.some.injEq] at hv; subst hv
      exact ofConst_sound hu
    · cases hc
  | global g => cases hc
  | func f =>
    simp only [cX, Option.some.injEq] at hc; subst hc
    simp only [X.ev, Option.some.injEq] at hv; subst hv
    exact .f _ _ _ [] [] .nil .nil

theorem cXs_sound (he : REnv ds ι D N env a) : ∀ {l : List Operand} {m : List X} {vs : List V}, cXs l = some m → evs env m = some vs → RVs ι D vs (l.map a.eval) := by
  intro l
  induction l with
  | nil => intro m vs h1 h2; simp [cXs] at h1; subst h1; simp [evs] at h2; subst h2; exact .nil
  | cons o l ih =>
    intro m vs h1 h2
    unfold cXs at h1
    split at h1
    · rename_i x m' hx hm
      simp at h1; subst h1
      unfold evs at h2
      split at h2
      · rename_i v vs' hv hvs
        simp at h2; subst h2
        exact .cons _ _ _ _ (cX_sound hx hv he) (ih hm hvs)
      · cases h2
    · cases h1

end Ram

/- Each pure operation of the model yields what the abstract machine says: the runs. -/
namespace Ram
open Go
open Go.RowKit (Below Hid)

variable {P : Program} {ι : Inj} {D : Nat → Prop} {N : Nat} {ds : List Deferred} {env : Env} {a : Act} {w : World}

/-- It yields v, and leaves the world alone. -/
def Yld (P : Program) (ι : Inj) (D : Nat → Prop) (s : Sem Value) (w : World) (v : V) : Prop := ∃ c, s.run P w = .ok c w ∧ RV ι D v c

theorem Yld.next {s : Sem Value} {v : V} (h : Yld P ι D s w v) : ∃ c, ((do pure (Next.value (← s))) : Sem Next).run P w = .ok (.value c) w ∧ RV ι D v c := by
  obtain ⟨c, h1, h2⟩ := h
  exact ⟨c, by simp [h1], h2⟩

theorem run_typeInfo {t : TypeId} {i : TypeInfo} (h : P.info? t = some i) (w : World) : (typeInfo t).run P w = .ok i w := by
  simp [typeInfo, h]
theorem run_sizeOf {t : TypeId} {n : Nat} (h : sizeT P t = some n) (w : World) : (Go.sizeOf t).run P w = .ok n w := by
  unfold sizeT at h
  cases hi : P.info? t with
  | none => simp [hi] at h
  | some i => simp [hi] at h; simp [Go.sizeOf, run_typeInfo hi, h]
theorem run_isAgg {t : TypeId} {b : Bool} (h : isAggT P t = some b) (w : World) : (isAgg t).run P w = .ok b w := by
  unfold isAggT at h
  split at h <;> simp at h <;> subst h <;> rename_i hu
  · simp [isAgg, run_underlying hu]
  · simp [isAgg, run_underlying hu]
  · rename_i x h1 h2
    rw [isAgg]
    simp only [Sem.run_bind, run_underlying hu, Result.andThen_ok]
    first
      | rfl
      | (split
         · exact absurd rfl (h1 _)
         · exact absurd rfl (h2 _ _)
         · rfl)

/-- An array's cells, some of them written over. -/
theorem splice_fold : ∀ (vs : List Value) (cs : Array Value) (off k : Nat), off + k + vs.length ≤ cs.size →
    ((vs.zipIdx k).foldl (fun cs (x : Value × Nat) => cs.setIfInBounds (off + x.2) x.1) cs).toList = cs.toList.take (off + k) ++ vs ++ cs.toList.drop (off + k + vs.length)
  | [], cs, off, k, h => by simp
  | v :: vs, cs, off, k, h => by
    simp only [List.zipIdx_cons, List.foldl_cons, List.length_cons] at h ⊢
    have hk : off + (k + 1) + vs.length ≤ (cs.setIfInBounds (off + k) v).size := by simp; omega
    rw [splice_fold vs _ off (k + 1) hk]
    simp only [Array.toList_setIfInBounds]
    have e1 : (cs.toList.set (off + k) v).take (off + (k + 1)) = cs.toList.take (off + k) ++ [v] := by
      rw [show off + (k + 1) = off + k + 1 by omega, List.take_add_one]
      rw [List.take_set_of_le (by omega)]
      have : off + k < cs.size := by omega
      simp [this]
    have e2 : (cs.toList.set (off + k) v).drop (off + (k + 1) + vs.length) = cs.toList.drop (off + k + (vs.length + 1)) := by
      rw [List.drop_set_of_lt (by omega)]
      congr 1; omega
    rw [e1, e2]
    simp

def spliceA (cs : Array Value) (off : Nat) (vs : Array Value) : Array Value := vs.zipIdx.foldl (fun cs (x : Value × Nat) => cs.setIfInBounds (off + x.2) x.1) cs
theorem spliceA_list (cs vs : Array Value) (off : Nat) (h : off + vs.size ≤ cs.size) : (spliceA cs off vs).toList = cs.toList.take off ++ vs.toList ++ cs.toList.drop (off + vs.size) := by
  unfold spliceA
  have := splice_fold vs.toList cs off 0 (by simpa using h)
  rw [← Array.foldl_toList, Array.toList_zipIdx]
  simpa using this

theorem RVs.splice {vs us : List V} {cs ds : List Value} (off : Nat) (h : RVs ι D vs cs) (k : RVs ι D us ds) : RVs ι D (splice vs off us) (cs.take off ++ ds ++ cs.drop (off + ds.length)) := by
  unfold Ram.splice
  rw [k.length]
  exact ((h.take off).append k).append (h.drop _)

theorem fill_sound (he : REnv ds ι D N env a) (place : Nat → Option (Nat × Nat)) : ∀ {l : List (Nat × Operand)} {parts : List (Nat × Nat × X)} {vs us : List V} {cs : Array Value},
    l.length = parts.length → (∀ (j i : Nat) (x : Operand), l[j]? = some (i, x) → ∃ o s y, parts[j]? = some (o, s, y) ∧ place i = some (o, s) ∧ cX x = some y) →
    fillV env vs parts = some us → RVs ι D vs cs.toList → ∃ ds : Array Value, Instr.fill place cs (l.map fun (i, x) => (i, a.eval x)) = some ds ∧ RVs ι D us ds.toList := by
  intro l
  induction l with
  | nil =>
    intro parts vs us cs hl _ h hr
    cases parts with
    | nil => simp [fillV] at h; subst h; exact ⟨cs, rfl, hr⟩
    | cons _ _ => simp at hl
  | cons p l ih =>
    intro parts vs us cs hl hp h hr
    obtain ⟨i, x⟩ := p
    cases parts with
    | nil => simp at hl
    | cons q parts =>
      obtain ⟨o, s, y, hq, hpl, hx⟩ := hp 0 i x (by simp)
      simp at hq; subst hq
      unfold fillV at h
      split at h
      · next v hv =>
        split at h
        · next hc =>
          have hrv := cX_sound hx hv he
          have hcs := hrv.cells
          have hlen := hcs.length
          simp only [Array.length_toList] at hlen
          have hsz := hr.length
          simp only [Array.length_toList] at hsz
          have hlist := spliceA_list cs (a.eval x).cells o (by omega)
          obtain ⟨ds, h1, h2⟩ := ih (parts := parts) (vs := Ram.splice vs o v.cells) (us := us) (cs := spliceA cs o (a.eval x).cells) (by simpa using hl)
            (fun j i x hj => by
              obtain ⟨o', s', y', e1, e2, e3⟩ := hp (j + 1) i x (by simpa using hj)
              exact ⟨o', s', y', by simpa using e1, e2, e3⟩) h (by
              rw [hlist]
              have := hr.splice o hcs
              simpa using this)
          refine ⟨ds, ?_, h2⟩
          simp only [List.map_cons, Instr.fill, hpl]
          rw [if_neg]
          · exact h1
          · simp; omega
        · cases h
      · cases h

end Ram

/- Each pure operation of the model yields what the abstract machine says: operation by operation. -/
namespace Ram
open Go
open Go.RowKit (Below Hid)

variable {P : Program} {ι : Inj} {D : Nat → Prop} {N : Nat} {ds : List Deferred} {env : Env} {a : Act} {w : World}

theorem RV.int_inv {k : IntKind} {n : Int} {c : Value} (h : RV ι D (.i k n) c) : c = .int k n := by cases h; rfl
theorem RV.bool_inv {b : Bool} {c : Value} (h : RV ι D (.b b) c) : c = .bool b := by cases h; rfl
theorem RV.str_inv {l : List UInt8} {c : Value} (h : RV ι D (.s l) c) : c = .string ⟨l.toArray⟩ := by cases h; simp
theorem RV.str {l : List UInt8} {s : ByteArray} (h : s.data.toList = l) : RV ι D (.s l) (.string s) := by subst h; exact .s s

theorem yld_pick {c x y : Operand} {c' x' y' : X} {v : V} (hc : cX c = some c') (hx : cX x = some x') (hy : cX y = some y') (h : apure (.pick c' x' y') env = some v) (he : REnv ds ι D N env a) :
    Yld P ι D (do pure (if ← asBool (a.eval c) then a.eval x else a.eval y)) w v := by
  simp only [apure] at h
  split at h
  · next hb =>
    have := (cX_sound hc hb he).bool_inv
    exact ⟨a.eval x, by simp [this, asBool], cX_sound hx h he⟩
  · next hb =>
    have := (cX_sound hc hb he).bool_inv
    exact ⟨a.eval y, by simp [this, asBool], cX_sound hy h he⟩
  · cases h

theorem run_zeroValue {t : TypeId} {zs : List V} (h : zeroT P t = some zs) (w : World) : ∃ z, (zeroValue t).run P w = .ok z w ∧ RVs ι D zs z.cells.toList ∧ (P.info? t).map (·.zero) = some (some z) := by
  unfold zeroT at h
  split at h
  · next z hz =>
    cases hi : P.info? t with
    | none => simp [hi] at hz
    | some i =>
      simp [hi] at hz
      exact ⟨z, by simp [zeroValue, run_typeInfo hi, hz], scalars_sound h, by simp [hz]⟩
  · cases h

theorem run_zeroV {t : TypeId} {v : V} (h : zeroV P t = some v) (w : World) : ∃ z, (zeroValue t).run P w = .ok z w ∧ RV ι D v z := by
  unfold zeroV at h
  split at h
  · next z hz =>
    cases hi : P.info? t with
    | none => simp [hi] at hz
    | some i =>
      simp [hi] at hz
      exact ⟨z, by simp [zeroValue, run_typeInfo hi, hz], ofConst_sound h⟩
  · cases h

theorem placesOf_get : ∀ {fs : List Field} {pl : List (Nat × Nat)}, placesOf P fs = some pl → pl.length = fs.length ∧ ∀ (i : Nat) (f : Field), fs[i]? = some f → ∃ s, sizeT P f.type = some s ∧ pl[i]? = some (f.offset, s)
  | [], pl, h => by simp [placesOf] at h; subst h; simp
  | f :: fs, pl, h => by
    unfold placesOf at h
    split at h
    · next s l hs hl =>
      simp at h; subst h
      obtain ⟨h1, h2⟩ := placesOf_get hl
      refine ⟨by simp [h1], fun i g hg => ?_⟩
      cases i with
      | zero => simp at hg; subst hg; exact ⟨s, hs, by simp⟩
      | succ i => simpa using h2 i g (by simpa using hg)
    · cases h

theorem run_places (w : World) : ∀ {fs : List Field} {pl : List (Nat × Nat)}, placesOf P fs = some pl → (fs.mapM fun (f : Field) => (do pure (f.offset, ← Go.sizeOf f.type) : Sem (Nat × Nat))).run P w = .ok pl w
  | [], pl, h => by simp [placesOf] at h; subst h; simp
  | f :: fs, pl, h => by
    unfold placesOf at h
    split at h
    · next s l hs hl =>
      simp at h; subst h
      have := run_places w hl
      simp only [List.mapM_cons, Sem.run_bind, run_sizeOf hs, Result.andThen_ok, Sem.run_pure, this]
    · cases h

theorem partsS_get {pl : List (Nat × Nat)} : ∀ {l : List (Nat × Operand)} {parts : List (Nat × Nat × X)}, partsS pl l = some parts →
    l.length = parts.length ∧ ∀ (j i : Nat) (x : Operand), l[j]? = some (i, x) → ∃ o s y, parts[j]? = some (o, s, y) ∧ pl[i]? = some (o, s) ∧ cX x = some y
  | [], parts, h => by simp [partsS] at h; subst h; simp
  | (i, x) :: l, parts, h => by
    unfold partsS at h
    split at h
    · next o s y m h1 h2 h3 =>
      simp at h; subst h
      obtain ⟨e1, e2⟩ := partsS_get h3
      refine ⟨by simp [e1], fun j i' x' hj => ?_⟩
      cases j with
      | zero => simp at hj; obtain ⟨rfl, rfl⟩ := hj; exact ⟨o, s, y, by simp, h1, h2⟩
      | succ j => simpa using e2 j i' x' (by simpa using hj)
    · cases h

theorem partsA_get {es : Nat} : ∀ {l : List (Nat × Operand)} {parts : List (Nat × Nat × X)}, partsA es l = some parts →
    l.length = parts.length ∧ ∀ (j i : Nat) (x : Operand), l[j]? = some (i, x) → ∃ o s y, parts[j]? = some (o, s, y) ∧ some (i * es, es) = some (o, s) ∧ cX x = some y
  | [], parts, h => by simp [partsA] at h; subst h; simp
  | (i, x) :: l, parts, h => by
    unfold partsA at h
    split at h
    · next y m h2 h3 =>
      simp at h; subst h
      obtain ⟨e1, e2⟩ := partsA_get h3
      refine ⟨by simp [e1], fun j i' x' hj => ?_⟩
      cases j with
      | zero => simp at hj; obtain ⟨rfl, rfl⟩ := hj; exact ⟨_, _, y, by simp, rfl, h2⟩
      | succ j => simpa using e2 j i' x' (by simpa using hj)
    · cases h

theorem map_pairs (ps : Array (Nat × Operand)) : (ps.map fun (i, x) => (i, a.eval x)).toList = ps.toList.map fun (i, x) => (i, a.eval x) := by simp

theorem yld_build_struct {t : TypeId} {ps : Array (Nat × Operand)} {fs : Array Field} {zs : List V} {pl : List (Nat × Nat)} {parts : List (Nat × Nat × X)} {v : V}
    (hu : P.underlying t = some (.struct fs)) (hz : zeroT P t = some zs) (hp : placesOf P fs.toList = some pl) (hq : partsS pl ps.toList = some parts)
    (h : apure (.build zs parts) env = some v) (he : REnv ds ι D N env a) : Yld P ι D (Instr.build t (ps.map fun (i, x) => (i, a.eval x))) w v := by
  simp only [apure] at h
  split at h
  · next us hus =>
    simp at h; subst h
    obtain ⟨z, hz1, hz2, _⟩ := run_zeroValue (ι := ι) (D := D) hz w
    obtain ⟨e1, e2⟩ := partsS_get hq
    obtain ⟨ds, h1, h2⟩ := fill_sound he (fun i => pl[i]?) e1 e2 hus hz2
    refine ⟨.agg ds, ?_, by simpa using RV.agg _ _ h2⟩
    have hpl := run_places w hp
    unfold Instr.build
    simp only [Sem.run_bind, hz1, Result.andThen_ok, run_underlying hu, map_pairs]
    rw [Array.mapM_eq_mapM_toList]
    simp only [Sem.run_map, hpl, Result.andThen_ok]
    simp [h1]
  · cases h

theorem yld_build_array {t : TypeId} {ps : Array (Nat × Operand)} {n : Nat} {e : TypeId} {s : Nat} {zs : List V} {parts : List (Nat × Nat × X)} {v : V}
    (hu : P.underlying t = some (.array n e)) (hz : zeroT P t = some zs) (hs : sizeT P e = some s) (hq : partsA s ps.toList = some parts)
    (h : apure (.build zs parts) env = some v) (he : REnv ds ι D N env a) : Yld P ι D (Instr.build t (ps.map fun (i, x) => (i, a.eval x))) w v := by
  simp only [apure] at h
  split at h
  · next us hus =>
    simp at h; subst h
    obtain ⟨z, hz1, hz2, _⟩ := run_zeroValue (ι := ι) (D := D) hz w
    obtain ⟨e1, e2⟩ := partsA_get hq
    obtain ⟨ds, h1, h2⟩ := fill_sound he (fun i => some (i * s, s)) e1 e2 hus hz2
    refine ⟨.agg ds, ?_, by simpa using RV.agg _ _ h2⟩
    unfold Instr.build
    simp only [Sem.run_bind, hz1, Result.andThen_ok, run_underlying hu, map_pairs, run_sizeOf hs]
    simp [h1]
  · cases h

theorem RV.ptr_inv {id o : Nat} {c : Value} (h : RV ι D (.p (some (id, o))) c) : c = .pointer (some ⟨(ι id).b, (ι id).o + o, none⟩) ∧ D id := by cases h; exact ⟨rfl, by assumption⟩
theorem RV.ptr0_inv {c : Value} (h : RV ι D (.p none) c) : c = .pointer none := by cases h; rfl
theorem RV.map0_inv {c : Value} (h : RV ι D (.m none) c) : c = .map none := by cases h; rfl
theorem RV.map_inv {id : Nat} {c : Value} (h : RV ι D (.m (some id)) c) : c = .map (some (ι id).b) ∧ D id := by cases h; exact ⟨rfl, by assumption⟩
theorem RV.sl_inv {es id o len cap : Nat} {c : Value} (h : RV ι D (.sl es (some (id, o)) len cap) c) :
    ∃ (cc : Nat) (k : Addr), c = .slice (some k) len cc ∧ D id ∧ len ≤ cc ∧ cap ≤ cc ∧ cc ≤ maxLen ∧ (cc = 0 ∨ (k = ⟨(ι id).b, (ι id).o + o, none⟩ ∧ (ι id).o + o + cc * es ≤ (ι id).n)) := by
  cases h; exact ⟨_, _, rfl, by assumption, by assumption, by assumption, by assumption, by assumption⟩
theorem RV.sl0_inv {es len cap : Nat} {c : Value} (h : RV ι D (.sl es none len cap) c) : c = .slice none 0 0 ∧ len = 0 ∧ cap = 0 := by cases h; exact ⟨rfl, rfl, rfl⟩
theorem RV.agg_inv {cs : List V} {c : Value} (h : RV ι D (.agg cs) c) : ∃ ds : List Value, c = .agg ds.toArray ∧ RVs ι D cs ds := by cases h; exact ⟨_, rfl, by assumption⟩
theorem RV.tup_inv {cs : List V} {c : Value} (h : RV ι D (.tup cs) c) : ∃ ds : List Value, c = .tuple ds.toArray ∧ RVs ι D cs ds := by cases h; exact ⟨_, rfl, by assumption⟩
theorem RV.f_inv {fn : FuncId} {xs ys : List V} {c : Value} (h : RV ι D (.f (.func fn) xs ys) c) : ∃ as bs : List Value, c = .func (.func fn) as.toArray bs.toArray ∧ RVs ι D xs as ∧ RVs ι D ys bs := by
  cases h; exact ⟨_, _, rfl, by assumption, by assumption⟩
theorem RV.f_inv' {fn : Fn} {xs ys : List V} {c : Value} (h : RV ι D (.f fn xs ys) c) : ∃ (fn' : Fn) (as bs : List Value), c = .func fn' as.toArray bs.toArray := by
  cases h with
  | f _ _ _ as bs _ _ => exact ⟨_, as, bs, rfl⟩
  | y l => exact ⟨_, [], [], rfl⟩
theorem RV.y_inv {id : Nat} {c : Value} (h : RV ι D (.f (.yield id) [] []) c) : c = .func (.yield (ι id).b) #[] #[] ∧ D id := by
  cases h; exact ⟨rfl, by assumption⟩
theorem RV.ifc_inv {t : TypeId} {v : V} {c : Value} (h : RV ι D (.ifc t v) c) : ∃ d, c = .iface t d ∧ RV ι D v d := by cases h; exact ⟨_, rfl, by assumption⟩

theorem Addr_add (b o n : Nat) : (⟨b, o, none⟩ : Addr).add n = ⟨b, o + n, none⟩ := by
  unfold Addr.add; split
  · next h => subst h; rfl
  · rfl

theorem yld_fieldAddr {t f : Nat} {x : Operand} {y : X} {fs : Array Field} {fd : Field} {n : Nat} {v : V} (hu : P.underlying t = some (.struct fs)) (hf : fs[f]? = some fd) (hs : sizeT P fd.type = some (n + 1))
    (hx : cX x = some y) (h : apure (.fieldAddr fd.offset y) env = some v) (he : REnv ds ι D N env a) : Yld P ι D (Instr.fieldAt t (a.eval x) f) w v := by
  simp only [apure] at h
  split at h
  · next id o hv =>
    simp at h; subst h
    obtain ⟨e1, e2⟩ := (cX_sound hx hv he).ptr_inv
    refine ⟨_, ?_, RV.p id (o + fd.offset) e2⟩
    simp [Instr.fieldAt, run_underlying hu, hf, e1, Instr.sureAddr, fieldPlace, run_sizeOf hs, Addr_add, Nat.add_assoc]
  · cases h

theorem yld_idxSl {t e : Nat} {x i : Operand} {y j : X} {s : Nat} {v : V} (hu : P.underlying t = some (.slice e)) (hs : sizeT P e = some s)
    (hx : cX x = some y) (hi : cX i = some j) (h : apure (.idxAddrSl s y j) env = some v) (he : REnv ds ι D N env a) : Yld P ι D (Instr.indexAt t (a.eval x) (a.eval i)) w v := by
  simp only [apure] at h
  split at h
  · next es' id o len cap k n hv hn =>
    split at h
    · next hc =>
      simp at h; subst h
      obtain ⟨c1, c2, c3⟩ := hc
      subst c1
      obtain ⟨cc, k', e1, e2, b1, _, _, b4⟩ := (cX_sound hx hv he).sl_inv
      have e3 := (cX_sound hi hn he).int_inv
      refine ⟨_, ?_, RV.p id (o + n.toNat * es') e2⟩
      have hk : k' = ⟨(ι id).b, (ι id).o + o, none⟩ := by rcases b4 with h0 | h0; omega; exact h0.1
      subst hk
      simp [Instr.indexAt, e1, e3, asIntOf, run_underlying hu, c2, c3, run_sizeOf hs, Addr_add, Nat.add_assoc]
    · cases h
  · cases h

theorem yld_idxArr {t e m : Nat} {x i : Operand} {y j : X} {s : Nat} {v : V} (hu : P.underlying t = some (.array m e)) (hs : sizeT P e = some s)
    (hx : cX x = some y) (hi : cX i = some j) (h : apure (.idxAddrArr m s y j) env = some v) (he : REnv ds ι D N env a) : Yld P ι D (Instr.indexAt t (a.eval x) (a.eval i)) w v := by
  simp only [apure] at h
  split at h
  · next id o k n hv hn =>
    split at h
    · next hc =>
      simp at h; subst h
      obtain ⟨c2, c3⟩ := hc
      obtain ⟨e1, e2⟩ := (cX_sound hx hv he).ptr_inv
      have e3 := (cX_sound hi hn he).int_inv
      refine ⟨_, ?_, RV.p id (o + n.toNat * s) e2⟩
      simp [Instr.indexAt, e1, e3, asIntOf, run_underlying hu, Instr.sureAddr, c2, c3, run_sizeOf hs, Addr_add, Nat.add_assoc]
    · cases h
  · cases h

theorem run_part {t : TypeId} {ag : Bool} {n off : Nat} {cs : List V} {ds : List Value} {v : V} (ha : isAggT P t = some ag) (hs : sizeT P t = some n) (hr : RVs ι D cs ds)
    (h : (if ag then some (.agg ((cs.drop off).take n)) else cs[off]?) = some v) : Yld P ι D (part t ds.toArray off) w v := by
  cases ag with
  | true =>
    simp at h; subst h
    refine ⟨.agg ((ds.drop off).take n).toArray, ?_, RV.agg _ _ ((hr.drop off).take n)⟩
    simp [part, run_isAgg ha, run_sizeOf hs, List.take_drop]
  | false =>
    simp at h
    obtain ⟨c, h1, h2⟩ := hr.get off v h
    exact ⟨c, by simp [part, run_isAgg ha, h1], h2⟩

theorem yld_field {t f : Nat} {x : Operand} {y : X} {fs : Array Field} {fd : Field} {ag : Bool} {n : Nat} {v : V} (hu : P.underlying t = some (.struct fs)) (hf : fs[f]? = some fd) (ha : isAggT P fd.type = some ag) (hs : sizeT P fd.type = some n)
    (hx : cX x = some y) (h : apure (.field ag fd.offset n y) env = some v) (he : REnv ds ι D N env a) : Yld P ι D (Instr.field t (a.eval x) f) w v := by
  simp only [apure] at h
  split at h
  · next cs hv =>
    obtain ⟨ds, e1, e2⟩ := (cX_sound hx hv he).agg_inv
    obtain ⟨c, h1, h2⟩ := run_part (P := P) (w := w) ha hs e2 h
    exact ⟨c, by simp [Instr.field, run_underlying hu, hf, e1, asAgg, h1], h2⟩
  · cases h

theorem yld_idxA {t e m : Nat} {x i : Operand} {y j : X} {ag : Bool} {s : Nat} {v : V} (hu : P.underlying t = some (.array m e)) (ha : isAggT P e = some ag) (hs : sizeT P e = some s)
    (hx : cX x = some y) (hi : cX i = some j) (h : apure (.idxArr ag m s y j) env = some v) (he : REnv ds ι D N env a) : Yld P ι D (Instr.index t (a.eval x) (a.eval i)) w v := by
  simp only [apure] at h
  split at h
  · next cs k n hv hn =>
    split at h
    · next hc =>
      obtain ⟨c2, c3⟩ := hc
      obtain ⟨ds, e1, e2⟩ := (cX_sound hx hv he).agg_inv
      have e3 := (cX_sound hi hn he).int_inv
      obtain ⟨c, h1, h2⟩ := run_part (P := P) (w := w) ha hs e2 h
      exact ⟨c, by simp [Instr.index, e1, e3, asIntOf, run_underlying hu, c2, c3, run_sizeOf hs, h1], h2⟩
    · cases h
  · cases h

theorem yld_idxS {t : Nat} {x i : Operand} {y j : X} {v : V} (hu : P.underlying t = some .string)
    (hx : cX x = some y) (hi : cX i = some j) (h : apure (.idxStr y j) env = some v) (he : REnv ds ι D N env a) : Yld P ι D (Instr.index t (a.eval x) (a.eval i)) w v := by
  simp only [apure] at h
  split at h
  · next l k n hv hn =>
    split at h
    · next hc =>
      split at h
      · next c hl =>
        simp at h; subst h
        have e1 := (cX_sound hx hv he).str_inv
        have e3 := (cX_sound hi hn he).int_inv
        refine ⟨_, ?_, RV.i .u8 c.toNat⟩
        have : (⟨l.toArray⟩ : ByteArray)[n.toNat]? = some c := by
          obtain ⟨h1, h2⟩ := List.getElem?_eq_some_iff.1 hl
          have h3 : n.toNat < (⟨l.toArray⟩ : ByteArray).size := by simpa [ByteArray.size] using h1
          rw [getElem?_pos (⟨l.toArray⟩ : ByteArray) n.toNat h3]
          simp [ByteArray.getElem_eq_getElem_data, h2]
        simp [Instr.index, e1, e3, asIntOf, run_underlying hu, hc, this]
      · cases h
    · cases h
  · cases h

end Ram

/- Each pure operation: arithmetic, comparisons, cuts, functions. -/
namespace Ram
open Go
open Go.RowKit (Below Hid)

variable {P : Program} {ι : Inj} {D : Nat → Prop} {N : Nat} {ds : List Deferred} {env : Env} {a : Act} {w : World}

/-- What a comparison of an operator yields, ahead of it the look. -/
def binS' (op : BinOp) (t : TypeId) (x y : Operand) (c d : Value) : Sem Value := do eqGuard op t x y c d; Go.binOp op t c d

theorem guard_int (op : BinOp) (t : TypeId) (x y : Operand) (k k' : IntKind) (m n : Int) : (eqGuard op t x y (.int k m) (.int k' n)).run P w = .ok () w := by
  unfold eqGuard; cases op <;> rfl
theorem guard_str (op : BinOp) (t : TypeId) (x y : Operand) (m n : ByteArray) : (eqGuard op t x y (.string m) (.string n)).run P w = .ok () w := by
  unfold eqGuard; cases op <;> rfl
theorem guard_bool (op : BinOp) (t : TypeId) (x y : Operand) (m n : Bool) : (eqGuard op t x y (.bool m) (.bool n)).run P w = .ok () w := by
  unfold eqGuard; cases op <;> rfl

theorem binI_sound {op : BinOp} {k : IntKind} {m n : Int} {v : V} (t : TypeId) (h : binI op k m n = some v) : Yld P ι D (Go.binOp op t (.int k m) (.int k n)) w v := by
  cases op <;> simp only [binI] at h <;> try (cases h; done)
  case quo =>
    split at h
    · cases h
    · next h0 =>
      simp only [Option.some.injEq] at h; subst h
      exact ⟨_, by simp [Go.binOp, Op.intDiv, h0], RV.i _ _⟩
  case rem =>
    split at h
    · cases h
    · next h0 =>
      simp only [Option.some.injEq] at h; subst h
      exact ⟨_, by simp [Go.binOp, Op.intDiv, h0], RV.i _ _⟩
  all_goals
    simp only [Option.some.injEq] at h; subst h
    exact ⟨_, by simp only [Go.binOp, Op.intArith, Op.intBits, Op.intCmp, ne_eq, not_true_eq_false, if_false, Sem.run_pure]; rfl, by constructor⟩

theorem beq_lists (l m : List UInt8) : ((⟨l.toArray⟩ : ByteArray).toList == (⟨m.toArray⟩ : ByteArray).toList) = (l == m) := by
  rw [ByteArray.toList_eq, ByteArray.toList_eq]

theorem binS_sound {op : BinOp} {l m : List UInt8} {v : V} (t : TypeId) (h : binS op l m = some v) : Yld P ι D (Go.binOp op t (.string ⟨l.toArray⟩) (.string ⟨m.toArray⟩)) w v := by
  have e : ∀ l : List UInt8, (⟨l.toArray⟩ : ByteArray).toList = l := fun l => by rw [ByteArray.toList_eq]
  cases op <;> simp only [binS] at h <;> try (cases h; done)
  case add =>
    split at h
    · next h0 =>
      simp at h; subst h
      refine ⟨.string (⟨l.toArray⟩ ++ ⟨m.toArray⟩), ?_, RV.str (by simp)⟩
      have h1 : ¬ ((((⟨l.toArray⟩ : ByteArray).size + (⟨m.toArray⟩ : ByteArray).size : Nat) : Int) > IntKind.i64.max) := by
        have : IntKind.i64.max = 9223372036854775807 := rfl
        rw [this]; simp only [ByteArray.size, List.size_toArray]; omega
      simp only [Go.binOp, Op.stringOp]
      rw [if_neg h1]; rfl
    · cases h
  all_goals
    simp only [Option.some.injEq] at h; subst h
    refine ⟨_, ?_, RV.b _⟩
    simp only [Go.binOp, Op.stringOp, e]
    rfl

theorem yld_bin {op : BinOp} {t : TypeId} {x y : Operand} {x' y' : X} {v : V} (hx : cX x = some x') (hy : cX y = some y') (h : apure (.bin op x' y') env = some v) (he : REnv ds ι D N env a) :
    Yld P ι D (do eqGuard op t x y (a.eval x) (a.eval y); Go.binOp op t (a.eval x) (a.eval y)) w v := by
  simp only [apure] at h
  split at h
  · next k m k' n hm hn =>
    have e1 := (cX_sound hx hm he).int_inv
    have e2 := (cX_sound hy hn he).int_inv
    have main : Yld P ι D (Go.binOp op t (.int k m) (.int k' n)) w v := by
      split at h
      · split at h
        · cases h
        · next h0 =>
          simp only [Option.some.injEq] at h; subst h
          exact ⟨_, by simp [Go.binOp, Op.shift, h0], RV.i _ _⟩
      · split at h
        · cases h
        · next h0 =>
          simp only [Option.some.injEq] at h; subst h
          exact ⟨_, by simp [Go.binOp, Op.shift, h0], RV.i _ _⟩
      · split at h
        · next hk => subst hk; exact binI_sound t h
        · cases h
    obtain ⟨c, h1, h2⟩ := main
    exact ⟨c, by simp only [Sem.run_bind, e1, e2, guard_int, Result.andThen_ok, h1], h2⟩
  · next l m hm hn =>
    have e1 := (cX_sound hx hm he).str_inv
    have e2 := (cX_sound hy hn he).str_inv
    obtain ⟨c, h1, h2⟩ := binS_sound (P := P) (ι := ι) (D := D) (w := w) t h
    exact ⟨c, by simp only [Sem.run_bind, e1, e2, guard_str, Result.andThen_ok, h1], h2⟩
  · cases h

theorem yld_eqB {neg : Bool} {op : BinOp} {t : TypeId} {x y : Operand} {x' y' : X} {v : V} (ht : P.underlying t = some .bool) (hop : op = if neg then .neq else .eql) (hx : cX x = some x') (hy : cX y = some y') (h : apure (.eqB neg x' y') env = some v) (he : REnv ds ι D N env a) :
    Yld P ι D (do eqGuard op t x y (a.eval x) (a.eval y); Go.binOp op t (a.eval x) (a.eval y)) w v := by
  simp only [apure] at h
  split at h
  · next l m hm hn =>
    have e1 := (cX_sound hx hm he).bool_inv
    have e2 := (cX_sound hy hn he).bool_inv
    simp only [Option.some.injEq] at h; subst h
    have hq : (Op.equal t (.bool l) (.bool m)).run P w = .ok (l == m) w := by
      unfold Op.equal Op.maxDepth
      rw [Op.equalIn]
      simp [run_underlying ht]
    refine ⟨_, ?_, RV.b _⟩
    simp only [Sem.run_bind, e1, e2, guard_bool, Result.andThen_ok]
    cases neg
    · simp only [Bool.false_eq_true, if_false] at hop ⊢
      subst hop
      simp only [Go.binOp, Sem.run_bind, hq, Result.andThen_ok, Sem.run_pure]
    · simp only [if_true] at hop ⊢
      subst hop
      simp only [Go.binOp, Sem.run_bind, hq, Result.andThen_ok, Sem.run_pure]
  · cases h

theorem guard_agg (op : BinOp) (t : TypeId) (x y : Operand) (xs ys : Array Value) (hm : P.eqGuardType P.depth t = false) : (eqGuard op t x y (.agg xs) (.agg ys)).run P w = .ok () w := run_eqGuard_agg w op t x y xs ys hm

/-- Cells alike. -/
theorem sameCell_sound {x y : V} {c d : Value} {t : TypeId} {kk : KK} {r : Bool} {dp : Nat} (ht : kindT P t = some kk) (hx : RV ι D x c) (hy : RV ι D y d) (h : sameCell kk x y = some r) :
    (Op.equalIn (dp + 1) t c d).run P w = .ok r w := by
  unfold kindT at ht
  unfold sameCell at h
  split at h
  · have e1 := hx.int_inv; have e2 := hy.int_inv
    subst e1; subst e2
    split at h
    · next hk =>
      subst hk
      simp at h; subst h
      split at ht <;> simp at ht
      next hu =>
      rw [Op.equalIn]; simp [run_underlying hu]
    · cases h
  · have e1 := hx.bool_inv; have e2 := hy.bool_inv
    subst e1; subst e2
    simp at h; subst h
    split at ht <;> simp at ht
    next hu =>
    rw [Op.equalIn]; simp [run_underlying hu]
  · have e1 := hx.str_inv; have e2 := hy.str_inv
    subst e1; subst e2
    simp at h; subst h
    split at ht <;> simp at ht
    next hu =>
    rw [Op.equalIn]; simp [run_underlying hu, beq_toListBytes]
  · cases h

theorem isAgg_kind {t : TypeId} {kk : KK} (ht : kindT P t = some kk) : isAggT P t = some false := by
  unfold kindT at ht
  unfold isAggT
  split at ht <;> simp_all

theorem sameAt_sound {xs ys : List V} {cs ds : List Value} {dp : Nat} (hx : RVs ι D xs cs) (hy : RVs ι D ys ds) : ∀ {fs : List Field} {l : List (Nat × KK)} {r : Bool}, flatFs P fs = some l → sameAt l xs ys = some r →
    (Op.eqFields (dp + 1) cs.toArray ds.toArray fs).run P w = .ok r w := by
  intro fs
  induction fs with
  | nil => intro l r hf h; simp [flatFs] at hf; subst hf; simp [sameAt] at h; subst h; simp [Op.eqFields]
  | cons f fs ih =>
    intro l r hf h
    unfold flatFs at hf
    split at hf
    · cases hf
    · next hn =>
      split at hf
      · next kk m hk hm =>
        simp at hf; subst hf
        unfold sameAt at h
        split at h
        · next x y e1 e2 =>
          obtain ⟨c, c1, c2⟩ := hx.get _ _ e1
          obtain ⟨d, d1, d2⟩ := hy.get _ _ e2
          have pc : (part f.type cs.toArray f.offset).run P w = .ok c w := by simp [part, run_isAgg (isAgg_kind hk), c1]
          have pd : (part f.type ds.toArray f.offset).run P w = .ok d w := by simp [part, run_isAgg (isAgg_kind hk), d1]
          split at h
          · next hs =>
            have he := sameCell_sound (P := P) (w := w) (dp := dp) hk c2 d2 hs
            simp only [Op.eqFields, ne_eq, hn, not_false_eq_true, if_true, Sem.run_bind, pc, pd, Result.andThen_ok, he]
            simpa using ih hm h
          · next hs =>
            simp at h; subst h
            have he := sameCell_sound (P := P) (w := w) (dp := dp) hk c2 d2 hs
            simp only [Op.eqFields, ne_eq, hn, not_false_eq_true, if_true, Sem.run_bind, pc, pd, Result.andThen_ok, he]
            simp
          · cases h
        · cases h
      · cases hf

theorem eqAgg_sound {t : TypeId} {l : List (Nat × KK)} {xs ys : List V} {cs ds : List Value} {r : Bool} (ht : flatT P t = some l) (hx : RVs ι D xs cs) (hy : RVs ι D ys ds) (h : sameAt l xs ys = some r) :
    (Op.equal t (.agg cs.toArray) (.agg ds.toArray)).run P w = .ok r w := by
  unfold flatT at ht
  split at ht
  · next fs hu =>
    split at ht
    · cases ht
    · next hst =>
      have hf : P.fieldsOf t = fs := by simp [Program.fieldsOf, hu]
      have := run_equalIn_struct (P := P) w 9999 t cs.toArray ds.toArray (by rw [hf]; exact hu) (by simpa using hst)
      unfold Op.equal Op.maxDepth
      rw [this, hf]
      exact sameAt_sound (dp := 9998) hx hy ht h
  · cases ht

theorem yld_eqAgg {neg : Bool} {op : BinOp} {t : TypeId} {l : List (Nat × KK)} {x y : Operand} {x' y' : X} {v : V} (ht : flatT P t = some l) (hg : P.eqGuardType P.depth t = false) (hop : op = if neg then .neq else .eql)
    (hx : cX x = some x') (hy : cX y = some y') (h : apure (.eqAgg neg l x' y') env = some v) (he : REnv ds ι D N env a) :
    Yld P ι D (do eqGuard op t x y (a.eval x) (a.eval y); Go.binOp op t (a.eval x) (a.eval y)) w v := by
  simp only [apure] at h
  split at h
  · next xs ys hm hn =>
    obtain ⟨cs, e1, f1⟩ := (cX_sound hx hm he).agg_inv
    obtain ⟨ds, e2, f2⟩ := (cX_sound hy hn he).agg_inv
    split at h
    · next r hr =>
      have hq := eqAgg_sound (P := P) (w := w) ht f1 f2 hr
      simp only [Option.some.injEq] at h; subst h
      refine ⟨_, ?_, RV.b _⟩
      simp only [Sem.run_bind, e1, e2, guard_agg _ _ _ _ _ _ hg, Result.andThen_ok]
      cases neg
      · simp only [Bool.false_eq_true, if_false] at hop ⊢
        subst hop
        simp only [Go.binOp, Sem.run_bind, hq, Result.andThen_ok, Sem.run_pure]
      · simp only [if_true] at hop ⊢
        subst hop
        simp only [Go.binOp, Sem.run_bind, hq, Result.andThen_ok, Sem.run_pure]
    · cases h
  · cases h

end Ram

/- Each pure operation: nil, cuts, functions, texts. -/
namespace Ram
open Go
open Go.RowKit (Below Hid)

variable {P : Program} {ι : Inj} {D : Nat → Prop} {N : Nat} {ds : List Deferred} {env : Env} {a : Act} {w : World}

theorem RV.nf_inv {c : Value} (h : RV ι D .nf c) : c = .nilFunc := by cases h; rfl

theorem eq_from {neg : Bool} {op : BinOp} {t : TypeId} {x y : Operand} {c d : Value} {r : Bool} (hop : op = if neg then .neq else .eql) (hg : (eqGuard op t x y c d).run P w = .ok () w)
    (hq : (Op.equal t c d).run P w = .ok r w) (hb : ∀ op, op = .eql ∨ op = .neq → Go.binOp op t c d = (if op = .eql then (do pure (.bool (← Op.equal t c d))) else (do pure (.bool (!(← Op.equal t c d))))))
    : Yld P ι D (do eqGuard op t x y c d; Go.binOp op t c d) w (.b (if neg then !r else r)) := by
  refine ⟨_, ?_, RV.b _⟩
  simp only [Sem.run_bind, hg, Result.andThen_ok]
  cases neg
  · simp only [Bool.false_eq_true, if_false] at hop ⊢
    subst hop
    rw [hb _ (.inl rfl), if_pos rfl]
    simp only [Sem.run_bind, hq, Result.andThen_ok, Sem.run_pure]
  · simp only [if_true] at hop ⊢
    subst hop
    rw [hb _ (.inr rfl), if_neg (by simp)]
    simp only [Sem.run_bind, hq, Result.andThen_ok, Sem.run_pure]

theorem equal_step (t : TypeId) (c d : Value) {r : Bool} (h : ∀ dp, (Op.equalIn (dp + 1) t c d).run P w = .ok r w) : (Op.equal t c d).run P w = .ok r w := h 9999

theorem yld_isNil {kd : Nat} {neg : Bool} {op : BinOp} {t : TypeId} {x y : Operand} {x' y' : X} {v : V}
    (ht : (kd = 0 → ∃ e, P.underlying t = some (.slice e)) ∧ (kd = 1 → ∃ k e, P.underlying t = some (.map k e)) ∧ (kd = 2 → ∃ b c e, P.underlying t = some (.func b c e)))
    (hop : op = if neg then .neq else .eql) (hx : cX x = some x') (hy : cX y = some y') (h : apure (.isNil kd neg x' y') env = some v) (he : REnv ds ι D N env a) :
    Yld P ι D (do eqGuard op t x y (a.eval x) (a.eval y); Go.binOp op t (a.eval x) (a.eval y)) w v := by
  have hop' : op = .eql ∨ op = .neq := by cases neg <;> simp_all
  simp only [apure] at h
  split at h
  · next es p n m es2 n2 m2 hm hn =>
    obtain ⟨e, hu⟩ := ht.1 rfl
    have e2 := ((cX_sound hy hn he).sl0_inv).1
    simp only [Option.some.injEq] at h; subst h
    have hc : ∃ q n' m', a.eval x = .slice q n' m' ∧ q.isNone = p.isNone := by
      cases p with
      | none => exact ⟨none, 0, 0, (cX_sound hx hm he).sl0_inv.1, rfl⟩
      | some p => obtain ⟨cc, _, h1, _⟩ := (cX_sound hx hm he).sl_inv; exact ⟨_, _, _, h1, rfl⟩
    obtain ⟨q, n', m', e1, e3⟩ := hc
    rw [e1, e2, ← e3]
    refine eq_from hop (by unfold eqGuard; rcases hop' with rfl | rfl <;> rfl) (equal_step _ _ _ fun dp => run_equalIn_slice_nil w dp t e q n' m' hu) ?_
    rintro op (rfl | rfl) <;> rfl
  · next p hm hn =>
    obtain ⟨k, e, hu⟩ := ht.2.1 rfl
    have e2 := (cX_sound hy hn he).map0_inv
    simp only [Option.some.injEq] at h; subst h
    have hc : ∃ q, a.eval x = .map q ∧ q.isNone = p.isNone := by
      cases p with
      | none => exact ⟨none, (cX_sound hx hm he).map0_inv, rfl⟩
      | some p => exact ⟨_, (cX_sound hx hm he).map_inv.1, rfl⟩
    obtain ⟨q, e1, e3⟩ := hc
    rw [e1, e2, ← e3]
    refine eq_from hop (by unfold eqGuard; rcases hop' with rfl | rfl <;> rfl) (equal_step _ _ _ fun dp => run_equalIn_map_nil w dp t k e q hu) ?_
    rintro op (rfl | rfl) <;> rfl
  · next hm hn =>
    obtain ⟨b, c, e, hu⟩ := ht.2.2 rfl
    have e1 : a.eval x = .nilFunc := (cX_sound hx hm he).nf_inv
    have e2 : a.eval y = .nilFunc := (cX_sound hy hn he).nf_inv
    simp only [Option.some.injEq] at h; subst h
    rw [e1, e2]
    have := eq_from (P := P) (ι := ι) (D := D) (w := w) (neg := neg) (op := op) (t := t) (x := x) (y := y) (c := .nilFunc) (d := .nilFunc) (r := true) hop (by unfold eqGuard; rcases hop' with rfl | rfl <;> rfl)
      (equal_step _ _ _ fun dp => by rw [Op.equalIn]; simp [run_underlying hu]) (by rintro op (rfl | rfl) <;> rfl)
    cases neg <;> exact this
  · next fn xs ys hm hn =>
    obtain ⟨b, c, e, hu⟩ := ht.2.2 rfl
    obtain ⟨fn', as, bs, e1⟩ := (cX_sound hx hm he).f_inv'
    have e2 : a.eval y = .nilFunc := (cX_sound hy hn he).nf_inv
    simp only [Option.some.injEq] at h; subst h
    rw [e1, e2]
    have := eq_from (P := P) (ι := ι) (D := D) (w := w) (neg := neg) (op := op) (t := t) (x := x) (y := y) (c := .func fn' as.toArray bs.toArray) (d := .nilFunc) (r := false) hop (by unfold eqGuard; rcases hop' with rfl | rfl <;> rfl)
      (equal_step _ _ _ fun dp => by rw [Op.equalIn]; simp [run_underlying hu]) (by rintro op (rfl | rfl) <;> rfl)
    cases neg <;> exact this
  · cases h

theorem yld_un {op : UnOp} {x : Operand} {x' : X} {v : V} (hx : cX x = some x') (h : apure (.un op x') env = some v) (he : REnv ds ι D N env a) : Yld P ι D (Op.unary op (a.eval x)) w v := by
  simp only [apure] at h
  split at h
  · next b hb =>
    have e := (cX_sound hx hb he).bool_inv
    simp only [Option.some.injEq] at h; subst h
    exact ⟨_, by simp only [e, Op.unary, Sem.run_pure], RV.b _⟩
  · next k n hb =>
    have e := (cX_sound hx hb he).int_inv
    simp only [Option.some.injEq] at h; subst h
    exact ⟨_, by simp only [e, Op.unary, Op.intArith, Sem.run_pure], RV.i _ _⟩
  · next k n hb =>
    have e := (cX_sound hx hb he).int_inv
    simp only [binI, Option.some.injEq] at h; subst h
    exact ⟨_, by simp only [e, Op.unary, Op.intBits, Sem.run_pure], RV.i _ _⟩
  · cases h

theorem yld_conv {src dst : TypeId} {k k' : IntKind} {x : Operand} {x' : X} {v : V} (hs : P.underlying src = some (.int k')) (hd : P.underlying dst = some (.int k)) (hx : cX x = some x') (h : apure (.conv k x') env = some v)
    (he : REnv ds ι D N env a) : Yld P ι D (convert src dst (a.eval x)) w v := by
  simp only [apure] at h
  split at h
  · next q n hb =>
    have e := (cX_sound hx hb he).int_inv
    simp only [Option.some.injEq] at h; subst h
    refine ⟨_, ?_, RV.i _ _⟩
    unfold convert
    simp only [Sem.run_bind, run_underlying hs, run_underlying hd, Result.andThen_ok, e, Conv.intToInt, Sem.run_pure]
  · cases h

theorem yld_mvS {src dst : TypeId} {x : Operand} {x' : X} {v : V} (hs : P.underlying src = some .string) (hd : P.underlying dst = some .string) (hx : cX x = some x') (h : apure (.mvS x') env = some v)
    (he : REnv ds ι D N env a) : Yld P ι D (convert src dst (a.eval x)) w v := by
  simp only [apure] at h
  split at h
  · next l hl =>
    simp only [Option.some.injEq] at h; subst h
    have e := (cX_sound hx hl he).str_inv
    refine ⟨_, ?_, cX_sound hx hl he⟩
    unfold convert
    simp only [Sem.run_bind, run_underlying hs, run_underlying hd, Result.andThen_ok, e, Sem.run_pure]
  · cases h

theorem yld_mkFunc {f : FuncId} {xs ys : Array Operand} {as bs : List X} {v : V} (hx : cXs xs.toList = some as) (hy : cXs ys.toList = some bs) (h : apure (.mkFunc f as bs) env = some v) (he : REnv ds ι D N env a) :
    Yld P ι D (Instr.makeFunc (.func f) (xs.map a.eval) (ys.map a.eval)) w v := by
  simp only [apure] at h
  split at h
  · next vs us h1 h2 =>
    simp only [Option.some.injEq] at h; subst h
    have r1 := cXs_sound he hx h1
    have r2 := cXs_sound he hy h2
    have := RV.f (ι := ι) (D := D) f _ _ _ _ r1 r2
    have e1 : xs.map a.eval = (xs.toList.map a.eval).toArray := by apply Array.ext'; simp
    have e2 : ys.map a.eval = (ys.toList.map a.eval).toArray := by apply Array.ext'; simp
    exact ⟨.func (.func f) (xs.map a.eval) (ys.map a.eval), rfl, by rw [e1, e2]; exact this⟩
  · cases h

theorem bnd_sound {y : Nat} {x : Operand} {x' : X} {n : Nat} {code : BoundsCode} (hx : cX x = some x') (h : bnd env y x' = some n) (he : REnv ds ι D N env a) : (Instr.sliceBound (a.eval x) y code).run P w = .ok n w ∧ n ≤ y := by
  unfold bnd at h
  split at h
  · next k m hm =>
    have e := (cX_sound hx hm he).int_inv
    split at h
    · next hc =>
      simp only [Option.some.injEq] at h; subst h
      refine ⟨?_, by omega⟩
      simp only [Instr.sliceBound, e, asIntOf, Sem.run_bind, Sem.run_pure, Result.andThen_ok, hc, and_self, if_true]
    · cases h
  · cases h

theorem cXo_some {o : Option Operand} {o' : Option X} (h : cXo o = some o') : (o = none ∧ o' = none) ∨ ∃ x y, o = some x ∧ o' = some y ∧ cX x = some y := by
  unfold cXo at h
  split at h
  · simp only [Option.some.injEq] at h; exact .inl ⟨rfl, h.symm⟩
  · next x =>
    split at h
    · next y hy => simp only [Option.some.injEq] at h; exact .inr ⟨x, y, rfl, h.symm, hy⟩
    · cases h

theorem cut2_sound {isS : Bool} {len cap l h : Nat} {lo hi : Option Operand} {lo' hi' : Option X} (hl : cXo lo = some lo') (hh : cXo hi = some hi') (hc : cut2 env len cap lo' hi' = some (l, h)) (he : REnv ds ι D N env a) :
    (Instr.sliceBounds isS len cap (lo.map a.eval) (hi.map a.eval) none).run P w = .ok (l, h, cap) w ∧ l ≤ h ∧ (h ≤ cap ∨ h = len) := by
  unfold cut2 at hc
  split at hc
  · next hv hhv =>
    split at hc
    · next lv hlv =>
      simp only [Option.some.injEq, Prod.mk.injEq] at hc
      obtain ⟨rfl, rfl⟩ := hc
      rcases cXo_some hl with ⟨rfl, rfl⟩ | ⟨x, y, rfl, rfl, hx⟩ <;> rcases cXo_some hh with ⟨rfl, rfl⟩ | ⟨x2, y2, rfl, rfl, hx2⟩
      · simp only [Option.some.injEq] at hhv hlv
        subst hhv; subst hlv
        exact ⟨by simp [Instr.sliceBounds], Nat.zero_le _, .inr rfl⟩
      · simp only [Option.some.injEq] at hlv; subst hlv
        obtain ⟨b1, b2⟩ := bnd_sound (P := P) (w := w) (code := if isS then .sliceAcap else .sliceAlen) hx2 hhv he
        refine ⟨?_, Nat.zero_le _, .inl b2⟩
        simp only [Instr.sliceBounds, Option.map_some, Option.map_none, Sem.run_bind, Sem.run_pure, Result.andThen_ok, b1]
      · simp only [Option.some.injEq] at hhv; subst hhv
        obtain ⟨b1, b2⟩ := bnd_sound (P := P) (w := w) (code := if (none : Option Value).isSome then .slice3C else .sliceB) hx hlv he
        refine ⟨?_, b2, .inr rfl⟩
        simp only [Instr.sliceBounds, Option.map_some, Option.map_none, Sem.run_bind, Sem.run_pure, Result.andThen_ok, b1]
      · obtain ⟨b1, b2⟩ := bnd_sound (P := P) (w := w) (code := if isS then .sliceAcap else .sliceAlen) hx2 hhv he
        obtain ⟨d1, d2⟩ := bnd_sound (P := P) (w := w) (code := if (none : Option Value).isSome then .slice3C else .sliceB) hx hlv he
        refine ⟨?_, d2, .inl b2⟩
        simp only [Instr.sliceBounds, Option.map_some, Sem.run_bind, Sem.run_pure, Result.andThen_ok, b1, d1]
    · cases hc
  · cases hc

end Ram

/- Each pure operation: cuts, lengths, and all of them together. -/
namespace Ram
open Go
open Go.RowKit (Below Hid)

variable {P : Program} {ι : Inj} {D : Nat → Prop} {N : Nat} {ds : List Deferred} {env : Env} {a : Act} {w : World}

theorem yld_slStr {t : TypeId} {x : Operand} {x' : X} {lo hi : Option Operand} {lo' hi' : Option X} {v : V} (hu : P.underlying t = some .string) (hx : cX x = some x') (hl : cXo lo = some lo') (hh : cXo hi = some hi')
    (h : apure (.slStr x' lo' hi') env = some v) (he : REnv ds ι D N env a) : Yld P ι D (Instr.sliceAt t (a.eval x) (lo.map a.eval) (hi.map a.eval) none) w v := by
  simp only [apure] at h
  split at h
  · next l hv =>
    split at h
    · next p q hc =>
      simp only [Option.some.injEq] at h; subst h
      have e := (cX_sound hx hv he).str_inv
      obtain ⟨h1, _, _⟩ := cut2_sound (P := P) (w := w) (isS := false) hl hh hc he
      have hsz : (⟨l.toArray⟩ : ByteArray).size = l.length := by simp [ByteArray.size]
      refine ⟨.string ((⟨l.toArray⟩ : ByteArray).extract p q), ?_, RV.str ?_⟩
      · unfold Instr.sliceAt
        simp only [Sem.run_bind, run_underlying hu, Result.andThen_ok, Instr.slice, e, Option.isSome_none, Bool.false_eq_true, if_false, hsz, h1, Sem.run_pure]
      · simp [ByteArray.data_extract, List.take_drop]
    · cases h
  · cases h

theorem cells_bound {es cc l o oi n : Nat} (h : oi + o + cc * es ≤ n) (hl : l ≤ cc) : oi + (o + l * es) + (cc - l) * es ≤ n := by
  have : l * es + (cc - l) * es = cc * es := by rw [← Nat.add_mul]; congr 1; omega
  omega

/-- What a cut makes of the place. -/
theorem cut_place {k : Addr} {l cc es : Nat} : (if cc = l then some k else (some k).map (·.add (l * es))) = some (if cc = l then k else k.add (l * es)) := by
  split <;> rfl

theorem bnd_mono {y z n : Nat} {x : X} (hyz : y ≤ z) (h : bnd env y x = some n) : bnd env z x = some n := by
  unfold bnd at h ⊢
  split at h
  · split at h
    · rw [if_pos (by omega)]; exact h
    · cases h
  · cases h

theorem cut2_mono {len y z l h : Nat} {lo hi : Option X} (hyz : y ≤ z) (hc : cut2 env len y lo hi = some (l, h)) : cut2 env len z lo hi = some (l, h) := by
  unfold cut2 at hc ⊢
  cases hi with
  | none => exact hc
  | some q =>
    simp only at hc ⊢
    split at hc
    · next hv hhv => rw [bnd_mono hyz hhv]; exact hc
    · cases hc

theorem yld_slSl {t e es : Nat} {x : Operand} {x' : X} {lo hi : Option Operand} {lo' hi' : Option X} {v : V} (hu : P.underlying t = some (.slice e)) (hs : sizeT P e = some es) (hx : cX x = some x') (hl : cXo lo = some lo') (hh : cXo hi = some hi')
    (h : apure (.slSl es x' lo' hi' none) env = some v) (he : REnv ds ι D N env a) : Yld P ι D (Instr.sliceAt t (a.eval x) (lo.map a.eval) (hi.map a.eval) none) w v := by
  simp only [apure] at h
  split at h
  · next es' p len cap hv =>
    split at h
    · next l q hc =>
      split at h
      · next id o =>
        split at h
        · next hes =>
          simp only [Option.some.injEq] at h; subst h
          subst hes
          obtain ⟨cc, k, e1, hd, h1, h2, h3, h4⟩ := (cX_sound hx hv he).sl_inv
          obtain ⟨b1, b2, b3⟩ := cut2_sound (P := P) (w := w) (isS := true) hl hh (cut2_mono h2 hc) he
          have b3' := (cut2_sound (P := P) (w := w) (isS := true) hl hh hc he).2.2
          have hlc : l ≤ cc := by omega
          refine ⟨_, ?_, RV.sl es' id (o + l * es') (if cc = l then k else k.add (l * es')) (q - l) (cap - l) (cc - l) hd (by omega) (by omega) (by omega) ?_⟩
          · unfold Instr.sliceAt
            simp only [Sem.run_bind, run_underlying hu, Result.andThen_ok, Instr.slice, e1, b1, run_sizeOf hs, Sem.run_pure, cut_place]
          · by_cases hcl : cc = l
            · exact .inl (by omega)
            · rcases h4 with h4 | ⟨h4, h5⟩
              · exact .inl (by omega)
              · refine .inr ⟨?_, cells_bound h5 hlc⟩
                rw [if_neg hcl, h4, Addr_add, Nat.add_assoc]
        · cases h
      · simp only [Option.some.injEq] at h; subst h
        obtain ⟨e1, rfl, rfl⟩ := (cX_sound hx hv he).sl0_inv
        obtain ⟨b1, b2, b3⟩ := cut2_sound (P := P) (w := w) (isS := true) hl hh hc he
        have hq0 : q = 0 := by omega
        subst hq0
        have hl0 : l = 0 := by omega
        subst hl0
        refine ⟨.slice none 0 0, ?_, RV.sl0 _⟩
        unfold Instr.sliceAt
        simp only [Sem.run_bind, run_underlying hu, Result.andThen_ok, Instr.slice, e1, b1, run_sizeOf hs, Sem.run_pure]
        rfl
    · cases h
  · cases h

theorem yld_slSl3 {t e es : Nat} {x : Operand} {x' : X} {lo hi : Option Operand} {mx : Operand} {lo' hi' : Option X} {mx' : X} {v : V} (hu : P.underlying t = some (.slice e)) (hs : sizeT P e = some es) (hx : cX x = some x') (hl : cXo lo = some lo') (hh : cXo hi = some hi')
    (hm : cX mx = some mx') (h : apure (.slSl es x' lo' hi' (some mx')) env = some v) (he : REnv ds ι D N env a) : Yld P ι D (Instr.sliceAt t (a.eval x) (lo.map a.eval) (hi.map a.eval) (some (a.eval mx))) w v := by
  simp only [apure] at h
  split at h
  · next es' p len cap hv =>
    split at h
    · next m hmb =>
      split at h
      · next l q hc =>
        -- a third bound wants the second one
        have hbounds : ∀ ccap, cap ≤ ccap → hi' ≠ none → (Instr.sliceBounds true len ccap (lo.map a.eval) (hi.map a.eval) (some (a.eval mx))).run P w = .ok (l, q, m) w ∧ l ≤ q ∧ q ≤ m ∧ m ≤ ccap := by
          intro ccap hcc hne
          obtain ⟨m1, m2⟩ := bnd_sound (P := P) (w := w) (code := .slice3Acap) hm (bnd_mono hcc hmb) he
          unfold cut2 at hc
          split at hc
          · next hv' hhv =>
            split at hc
            · next lv hlv =>
              simp only [Option.some.injEq, Prod.mk.injEq] at hc
              obtain ⟨rfl, rfl⟩ := hc
              rcases cXo_some hh with ⟨rfl, rfl⟩ | ⟨x2, y2, rfl, rfl, hx2⟩
              · exact absurd rfl hne
              · obtain ⟨q1, q2⟩ := bnd_sound (P := P) (w := w) (code := .slice3B) hx2 hhv he
                rcases cXo_some hl with ⟨rfl, rfl⟩ | ⟨x1, y1, rfl, rfl, hx1⟩
                · simp only [Option.some.injEq] at hlv; subst hlv
                  refine ⟨?_, Nat.zero_le _, q2, m2⟩
                  simp only [Instr.sliceBounds, Option.map_some, Option.map_none, Sem.run_bind, Sem.run_pure, Result.andThen_ok, m1, q1, if_true]
                · obtain ⟨l1, l2⟩ := bnd_sound (P := P) (w := w) (code := .slice3C) hx1 hlv he
                  refine ⟨?_, l2, q2, m2⟩
                  simp only [Instr.sliceBounds, Option.map_some, Sem.run_bind, Sem.run_pure, Result.andThen_ok, m1, q1, l1, if_true, Option.isSome_some]
            · cases hc
          · cases hc
        split at h
        · next y id o =>
          split at h
          · next hes =>
            simp only [Option.some.injEq] at h; subst h
            subst hes
            obtain ⟨cc, k, e1, hd, h1, h2, h3, h4⟩ := (cX_sound hx hv he).sl_inv
            obtain ⟨b1, b2, b3, b4⟩ := hbounds cc h2 (by simp)
            refine ⟨_, ?_, RV.sl es' id (o + l * es') (if m = l then k else k.add (l * es')) (q - l) (m - l) (m - l) hd (by omega) (by omega) (by omega) ?_⟩
            · unfold Instr.sliceAt
              simp only [Sem.run_bind, run_underlying hu, Result.andThen_ok, Instr.slice, e1, b1, run_sizeOf hs, Sem.run_pure, cut_place]
            · by_cases hcl : m = l
              · exact .inl (by omega)
              · rcases h4 with h4 | ⟨h4, h5⟩
                · exact .inl (by omega)
                · refine .inr ⟨?_, cells_bound (cc := m) ?_ (by omega)⟩
                  · rw [if_neg hcl, h4, Addr_add, Nat.add_assoc]
                  · have := Nat.mul_le_mul_right es' b4; omega
          · cases h
        · simp only [Option.some.injEq] at h; subst h
          obtain ⟨e1, rfl, rfl⟩ := (cX_sound hx hv he).sl0_inv
          obtain ⟨b1, b2, b3, b4⟩ := hbounds 0 (by omega) (by simp)
          have hm0 : m = 0 := by omega
          subst hm0
          have hq0 : q = 0 := by omega
          subst hq0
          have hl0 : l = 0 := by omega
          subst hl0
          refine ⟨.slice none 0 0, ?_, RV.sl0 _⟩
          unfold Instr.sliceAt
          simp only [Sem.run_bind, run_underlying hu, Result.andThen_ok, Instr.slice, e1, b1, run_sizeOf hs, Sem.run_pure]
          rfl
        · cases h
      · cases h
    · cases h
  · cases h

theorem yld_lenS {t ty : TypeId} {x : Operand} {x' : X} {v : V} (hu : P.underlying t = some .string) (hx : cX x = some x') (h : apure (.lenS x') env = some v) (he : REnv ds ι D N env a) {ts : Array TypeId} (ht : ts[0]? = some t) :
    Yld P ι D (Builtin.len_ ts ty #[a.eval x]) w v := by
  simp only [apure] at h
  split at h
  · next l hv =>
    simp only [Option.some.injEq] at h; subst h
    have e := (cX_sound hx hv he).str_inv
    have hs : (⟨l.toArray⟩ : ByteArray).size = l.length := by simp [ByteArray.size]
    refine ⟨_, ?_, RV.i _ _⟩
    unfold Builtin.len_
    simp [ht, run_underlying hu, e, goInt, hs]
  · cases h

theorem yld_lenSl {t ty et : TypeId} {x : Operand} {x' : X} {v : V} (hu : P.underlying t = some (.slice et)) (hx : cX x = some x') (h : apure (.lenSl x') env = some v) (he : REnv ds ι D N env a) {ts : Array TypeId} (ht : ts[0]? = some t) :
    Yld P ι D (Builtin.len_ ts ty #[a.eval x]) w v := by
  simp only [apure] at h
  split at h
  · next es p n c hv =>
    simp only [Option.some.injEq] at h; subst h
    have hc : ∃ q m, a.eval x = .slice q n m := by
      cases p with
      | none => obtain ⟨h1, rfl, rfl⟩ := (cX_sound hx hv he).sl0_inv; exact ⟨_, _, h1⟩
      | some p => obtain ⟨cc, k, h1, _⟩ := (cX_sound hx hv he).sl_inv; exact ⟨_, _, h1⟩
    obtain ⟨q, m, e⟩ := hc
    refine ⟨_, ?_, RV.i _ _⟩
    simp [Builtin.len_, ht, run_underlying hu, e, goInt]
  · cases h

theorem yld_lenC {t ty et : TypeId} {n : Nat} {x : Operand} {v : V} (hu : P.underlying t = some (.array n et)) (h : apure (.lenC n) env = some v) {ts : Array TypeId} (ht : ts[0]? = some t) :
    Yld P ι D (Builtin.len_ ts ty #[a.eval x]) w v := by
  simp only [apure, Option.some.injEq] at h; subst h
  refine ⟨_, ?_, RV.i _ _⟩
  simp [Builtin.len_, ht, run_underlying hu, goInt]

theorem yld_mkIface {t : TypeId} {d : TypeDesc} {x : Operand} {x' : X} {v : V} (hu : P.underlying t = some d) (hd : ∀ ms, d ≠ .interface ms) (hx : cX x = some x') (h : apure (.mkIface t x') env = some v) (he : REnv ds ι D N env a) :
    Yld P ι D (Instr.makeInterface t (a.eval x)) w v := by
  simp only [apure] at h
  split at h
  · next u hv =>
    simp only [Option.some.injEq] at h; subst h
    refine ⟨.iface t (a.eval x), ?_, RV.ifc _ _ _ (cX_sound hx hv he)⟩
    unfold Instr.makeInterface
    simp only [Sem.run_bind, run_underlying hu, Result.andThen_ok]
    cases d <;> first | rfl | exact absurd rfl (hd _)
  · cases h

theorem yld_extract {i : Nat} {x : Operand} {x' : X} {v : V} (hx : cX x = some x') (h : apure (.extract i x') env = some v) (he : REnv ds ι D N env a) : Yld P ι D (Instr.extract (a.eval x) i) w v := by
  simp only [apure] at h
  split at h
  · next vs hv =>
    obtain ⟨ds, e, r⟩ := (cX_sound hx hv he).tup_inv
    obtain ⟨c, h1, h2⟩ := r.get i v h
    exact ⟨c, by simp [Instr.extract, e, h1], h2⟩
  · cases h

theorem yld_nilCheck {x : Operand} {x' : X} {v : V} (hx : cX x = some x') (h : apure (.nilCheck x') env = some v) (he : REnv ds ι D N env a) {o : Oper} (ho : o.op = .nilCheck x) :
    ∃ c, (execOp a.eval o).run P w = .ok (.value c) w ∧ RV ι D v c := by
  simp only [apure] at h
  split at h
  · next p hv =>
    simp only [Option.some.injEq] at h; subst h
    obtain ⟨id, q⟩ := p
    obtain ⟨e, hd⟩ := (cX_sound hx hv he).ptr_inv
    refine ⟨_, ?_, RV.p id q hd⟩
    unfold execOp
    simp only [ho, e]
    rfl
  · next f xs ys hv =>
    simp only [Option.some.injEq] at h; subst h
    obtain ⟨as, bs, e, h1, h2⟩ := (cX_sound hx hv he).f_inv
    refine ⟨_, ?_, RV.f _ _ _ _ _ h1 h2⟩
    unfold execOp
    simp only [ho, e]
    rfl
  · cases h

theorem mx_fold (mx : Bool) (k : IntKind) : ∀ {vs : List V} {cs : List Value} {m n : Int}, RVs ι D vs cs → mxL mx m vs = some n →
    (cs.foldlM (if mx then Builtin.max2 else Builtin.min2) (.int k m)).run P w = .ok (.int k n) w
  | [], cs, m, n, hr, h => by
    cases hr
    simp only [mxL, Option.some.injEq] at h; subst h
    rfl
  | u :: vs, cs, m, n, hr, h => by
    cases hr with
    | cons _ c _ cs h1 h2 =>
      cases u <;> simp only [mxL] at h <;> try (cases h; done)
      next k' q =>
      have e := h1.int_inv
      subst e
      cases mx with
      | true =>
        have g1 := mx_fold true k h2 h
        simp only [List.foldlM_cons, if_true, Builtin.max2, Sem.run_bind, Sem.run_pure, Result.andThen_ok] at g1 ⊢
        exact g1
      | false =>
        have g1 := mx_fold false k h2 h
        simp only [List.foldlM_cons, Bool.false_eq_true, if_false, Builtin.min2, Sem.run_bind, Sem.run_pure, Result.andThen_ok] at g1 ⊢
        exact g1

theorem yld_mxmn {mx : Bool} {xs : Array Operand} {xs' : List X} {ts : Array TypeId} {ty : TypeId} {v : V} (hx : cXs xs.toList = some xs') (h : apure (.mxmn mx xs') env = some v) (he : REnv ds ι D N env a) :
    Yld P ι D ((if mx then Builtin.max_ ts ty (xs.map a.eval) else Builtin.min_ ts ty (xs.map a.eval))) w v := by
  simp only [apure] at h
  split at h
  · next k m r hv =>
    have hr := cXs_sound he hx hv
    have hl : (xs.map a.eval).toList = xs.toList.map a.eval := by simp
    cases hcs : xs.toList.map a.eval with
    | nil => rw [hcs] at hr; cases hr
    | cons c cs =>
      rw [hcs] at hr
      cases hr with
      | cons _ _ _ _ h1 h2 =>
        have e := h1.int_inv
        subst e
        split at h
        rotate_left
        · cases h
        next n hn =>
        have g1 := mx_fold (P := P) (w := w) mx k h2 hn
        simp only [Option.some.injEq] at h; subst h
        refine ⟨_, ?_, RV.i _ _⟩
        cases mx with
        | true => simp only [if_true, Builtin.max_, hl, hcs] at g1 ⊢; exact g1
        | false => simp only [Bool.false_eq_true, if_false, Builtin.min_, hl, hcs] at g1 ⊢; exact g1
  · cases h

theorem yld_tassert {xt t : TypeId} {d : TypeDesc} {z : V} {x : Operand} {x' : X} {v : V} (hu : P.underlying t = some d) (hd : ∀ ms, d ≠ .interface ms) (hz : zeroV P t = some z) (hx : cX x = some x') (h : apure (.tassert t z x') env = some v)
    (he : REnv ds ι D N env a) : Yld P ι D (Instr.typeAssert (a.eval x) xt t true) w v := by
  obtain ⟨zc, z1, z2⟩ := run_zeroV (ι := ι) (D := D) hz w
  simp only [apure] at h
  split at h
  · next t' u hv =>
    obtain ⟨c, e, r⟩ := (cX_sound hx hv he).ifc_inv
    simp only [Option.some.injEq] at h; subst h
    by_cases ht : t' = t
    · subst ht
      rw [if_pos rfl]
      refine ⟨.tuple #[c, .bool true], ?_, RV.tup _ [c, .bool true] (.cons _ _ _ _ r (.cons _ _ _ _ (.b true) .nil))⟩
      unfold Instr.typeAssert
      simp only [Sem.run_bind, run_underlying hu, Result.andThen_ok, e]
      cases d <;> first | (exact absurd rfl (hd _)) | (simp; done)
    · rw [if_neg ht]
      refine ⟨.tuple #[zc, .bool false], ?_, RV.tup _ [zc, .bool false] (.cons _ _ _ _ z2 (.cons _ _ _ _ (.b false) .nil))⟩
      unfold Instr.typeAssert
      simp only [Sem.run_bind, run_underlying hu, Result.andThen_ok, e]
      cases d <;> first | (exact absurd rfl (hd _)) | (simp [ht, z1]; done)
  · next hv =>
    have e : a.eval x = .nilIface := by
      have hh := cX_sound hx hv he
      generalize a.eval x = q at hh
      cases hh; rfl
    simp only [Option.some.injEq] at h; subst h
    refine ⟨.tuple #[zc, .bool false], ?_, RV.tup _ [zc, .bool false] (.cons _ _ _ _ z2 (.cons _ _ _ _ (.b false) .nil))⟩
    unfold Instr.typeAssert
    simp only [Sem.run_bind, run_underlying hu, Result.andThen_ok, e]
    cases d <;> first | (exact absurd rfl (hd _)) | (simp [z1]; done)
  · cases h

end Ram
