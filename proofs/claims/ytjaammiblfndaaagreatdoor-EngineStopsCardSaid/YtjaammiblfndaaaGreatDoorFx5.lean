/- A part of the proof: contracts of functions, over the abstract machine. -/
import Derived.Test.YtjaammiblfndaaaGreatDoorFx4
import Derived.Test.YtjaammiblfndaaaGreatDoorEv0
set_option linter.unusedVariables false
set_option linter.unusedSimpArgs false
set_option linter.all false
/- Operands looked up ahead of the run. -/
namespace Ram
open Go
noncomputable section

/-- Registers that are known. -/
abbrev SE := List (Nat × V)
def lk : SE → Nat → Option V
  | [], _ => none
  | (r, v) :: e, n => match Nat.beq r n with
    | true => some v
    | false => lk e n
def Sub (e : SE) (env : Env) : Prop := ∀ n v, lk e n = some v → env.get n = some v
theorem Sub.cons {e : SE} {env : Env} {r : Nat} {v : V} (h : Sub e env) (hr : env.get r = some v) : Sub ((r, v) :: e) env := by
  intro n u hn
  simp only [lk] at hn
  split at hn
  · next hb => simp only [Option.some.injEq] at hn; subst hn; rw [← Nat.eq_of_beq_eq_true hb]; exact hr
  · exact h n u hn
theorem Sub.nil {env : Env} : Sub [] env := by intro n u hn; cases hn
theorem Sub.set {e : SE} {env : Env} {r : Nat} {v : V} (h : Sub e env) : Sub ((r, v) :: e) (env.set r v) := by
  intro n u hn
  simp only [lk] at hn
  split at hn
  · next hb => simp only [Option.some.injEq] at hn; subst hn; rw [← Nat.eq_of_beq_eq_true hb]; exact Tr.get_set_same _ _ _
  · next hb => rw [Tr.get_set_ne _ _ _ _ (fun e => Nat.ne_of_beq_eq_false hb e.symm)]; exact h n u hn
def putS (e : SE) : Option Nat → V → SE
  | some d, v => (d, v) :: e
  | none, _ => e
theorem Sub.put {e : SE} {env : Env} {d : Option Nat} {v : V} (h : Sub e env) : Sub (putS e d v) (putE env d v) := by
  cases d with
  | none => exact h
  | some d => exact h.set

def valX (e : SE) : X → Option V
  | .t n => lk e n
  | .c v => some v
  | .fn f => some (.f (.func f) [] [])
def valsX (e : SE) : List X → Option (List V)
  | [] => some []
  | x :: l => match valX e x, valsX e l with
    | some v, some vs => some (v :: vs)
    | _, _ => none
def subX (e : SE) (x : X) : Option X := match valX e x with
  | some v => some (.c v)
  | none => none
def subL (e : SE) : List X → Option (List X)
  | [] => some []
  | x :: l => match subX e x, subL e l with
    | some v, some vs => some (v :: vs)
    | _, _ => none
def subP (e : SE) : List (Nat × Nat × X) → Option (List (Nat × Nat × X))
  | [] => some []
  | (o, s, x) :: l => match subX e x, subP e l with
    | some v, some vs => some ((o, s, v) :: vs)
    | _, _ => none
def subO (e : SE) : Option X → Option (Option X)
  | none => some none
  | some x => match subX e x with
    | some v => some (some v)
    | none => none
variable {e : SE} {env : Env}
theorem valX_true {x : X} {v : V} (hs : Sub e env) (h : valX e x = some v) : x.ev env = some v := by
  cases x with
  | t n => exact hs _ _ h
  | c u => exact h
  | fn f => exact h
theorem valsX_true (hs : Sub e env) : ∀ {l : List X} {vs : List V}, valsX e l = some vs → evs env l = some vs
  | [], vs, h => h
  | x :: l, vs, h => by
    simp only [valsX] at h
    split at h
    · next v us h1 h2 =>
      simp only [Option.some.injEq] at h; subst h
      simp only [evs, valX_true hs h1, valsX_true hs h2]
    · cases h
theorem subX_true {x y : X} (hs : Sub e env) (h : subX e x = some y) : x.ev env = y.ev .leaf := by
  unfold subX at h
  split at h
  · next v hv => simp only [Option.some.injEq] at h; subst h; exact valX_true hs hv
  · cases h
theorem subL_true (hs : Sub e env) : ∀ {l m : List X}, subL e l = some m → evs env l = evs .leaf m
  | [], m, h => by simp only [subL, Option.some.injEq] at h; subst h; rfl
  | x :: l, m, h => by
    simp only [subL] at h
    split at h
    · next v us h1 h2 =>
      simp only [Option.some.injEq] at h; subst h
      simp only [evs, subX_true hs h1, subL_true hs h2]
    · cases h
theorem subP_true (hs : Sub e env) : ∀ {l m : List (Nat × Nat × X)} {cs : List V}, subP e l = some m → fillV env cs l = fillV .leaf cs m
  | [], m, cs, h => by simp only [subP, Option.some.injEq] at h; subst h; rfl
  | (o, s, x) :: l, m, cs, h => by
    simp only [subP] at h
    split at h
    · next v us h1 h2 =>
      simp only [Option.some.injEq] at h; subst h
      simp only [fillV, subX_true hs h1]
      split
      · split
        · exact subP_true hs h2
        · rfl
      · rfl
    · cases h
theorem bnd_sub {x y : X} {n : Nat} (hs : Sub e env) (h : subX e x = some y) : bnd env n x = bnd .leaf n y := by simp only [bnd, subX_true hs h]
theorem cut2_sub {lo hi lo' hi' : Option X} {n m : Nat} (hs : Sub e env) (h1 : subO e lo = some lo') (h2 : subO e hi = some hi') : cut2 env n m lo hi = cut2 .leaf n m lo' hi' := by
  have key : ∀ {o o' : Option X}, subO e o = some o' → (o = none ∧ o' = none) ∨ ∃ x y, o = some x ∧ o' = some y ∧ subX e x = some y := by
    intro o o' h
    cases o with
    | none => simp only [subO, Option.some.injEq] at h; exact .inl ⟨rfl, h.symm⟩
    | some x =>
      simp only [subO] at h
      split at h
      · next y hy => simp only [Option.some.injEq] at h; exact .inr ⟨x, y, rfl, h.symm, hy⟩
      · cases h
  rcases key h1 with ⟨rfl, rfl⟩ | ⟨x, y, rfl, rfl, hx⟩ <;> rcases key h2 with ⟨rfl, rfl⟩ | ⟨x', y', rfl, rfl, hx'⟩
  · rfl
  · simp only [cut2, bnd_sub hs hx']
  · simp only [cut2, bnd_sub hs hx]
  · simp only [cut2, bnd_sub hs hx, bnd_sub hs hx']

def o1 {β : Type} (f : X → β) (x : Option X) : Option β := match x with
  | some x => some (f x)
  | none => none
def o2 {β : Type} (f : X → X → β) (x y : Option X) : Option β := match x, y with
  | some x, some y => some (f x y)
  | _, _ => none
def o3 {β : Type} (f : X → X → X → β) (x y z : Option X) : Option β := match x, y, z with
  | some x, some y, some z => some (f x y z)
  | _, _, _ => none
theorem o1_some {β : Type} {f : X → β} {x : Option X} {b : β} (h : o1 f x = some b) : ∃ u, x = some u ∧ b = f u := by
  cases x <;> simp only [o1, Option.some.injEq] at h <;> first | exact ⟨_, rfl, h.symm⟩ | cases h
theorem o2_some {β : Type} {f : X → X → β} {x y : Option X} {b : β} (h : o2 f x y = some b) : ∃ u v, x = some u ∧ y = some v ∧ b = f u v := by
  cases x <;> cases y <;> simp only [o2, Option.some.injEq] at h <;> first | exact ⟨_, _, rfl, rfl, h.symm⟩ | cases h
theorem o3_some {β : Type} {f : X → X → X → β} {x y z : Option X} {b : β} (h : o3 f x y z = some b) : ∃ u v w, x = some u ∧ y = some v ∧ z = some w ∧ b = f u v w := by
  cases x <;> cases y <;> cases z <;> simp only [o3, Option.some.injEq] at h <;> first | exact ⟨_, _, _, rfl, rfl, rfl, h.symm⟩ | cases h

def subPure (e : SE) : PureOp → Option PureOp
  | .mv x => o1 .mv (subX e x)
  | .mvS x => o1 .mvS (subX e x)
  | .pick c a b => o3 .pick (subX e c) (subX e a) (subX e b)
  | .build zs ps => match subP e ps with
    | some ps => some (.build zs ps)
    | none => none
  | .nilCheck x => o1 .nilCheck (subX e x)
  | .fieldAddr off x => o1 (.fieldAddr off) (subX e x)
  | .idxAddrSl es x i => o2 (.idxAddrSl es) (subX e x) (subX e i)
  | .idxAddrArr len es x i => o2 (.idxAddrArr len es) (subX e x) (subX e i)
  | .field agg off n x => o1 (.field agg off n) (subX e x)
  | .idxArr agg len es x i => o2 (.idxArr agg len es) (subX e x) (subX e i)
  | .idxStr x i => o2 .idxStr (subX e x) (subX e i)
  | .bin op x y => o2 (.bin op) (subX e x) (subX e y)
  | .eqB neg x y => o2 (.eqB neg) (subX e x) (subX e y)
  | .eqAgg neg l x y => o2 (.eqAgg neg l) (subX e x) (subX e y)
  | .isNil kd neg x y => o2 (.isNil kd neg) (subX e x) (subX e y)
  | .un op x => o1 (.un op) (subX e x)
  | .conv kd x => o1 (.conv kd) (subX e x)
  | .mkFunc f a b => match subL e a, subL e b with
    | some a, some b => some (.mkFunc f a b)
    | _, _ => none
  | .slStr x lo hi => match subX e x, subO e lo, subO e hi with
    | some x, some lo, some hi => some (.slStr x lo hi)
    | _, _, _ => none
  | .slSl es x lo hi mx => match subX e x, subO e lo, subO e hi, subO e mx with
    | some x, some lo, some hi, some mx => some (.slSl es x lo hi mx)
    | _, _, _, _ => none
  | .lenS x => o1 .lenS (subX e x)
  | .lenSl x => o1 .lenSl (subX e x)
  | .lenC n => some (.lenC n)
  | .mkIface t x => o1 (.mkIface t) (subX e x)
  | .extract i x => o1 (.extract i) (subX e x)
  | .mxmn mx xs => match subL e xs with
    | some xs => some (.mxmn mx xs)
    | none => none
  | .tassert t z x => o1 (.tassert t z) (subX e x)
theorem subPure_true {o p : PureOp} (hs : Sub e env) (h : subPure e o = some p) : apure o env = apure p .leaf := by
  cases o <;> simp only [subPure] at h <;>
    first
      | (obtain ⟨u, h1, rfl⟩ := o1_some h; simp only [apure, subX_true hs h1]; done)
      | (obtain ⟨u, v, h1, h2, rfl⟩ := o2_some h; simp only [apure, subX_true hs h1, subX_true hs h2]; done)
      | (obtain ⟨u, v, w, h1, h2, h3, rfl⟩ := o3_some h; simp only [apure, subX_true hs h1, subX_true hs h2, subX_true hs h3]; done)
      | skip
  case build zs ps =>
    split at h
    · next h1 => simp only [Option.some.injEq] at h; subst h; simp only [apure, subP_true hs h1]
    · cases h
  case mkFunc f a b =>
    split at h
    · next h1 h2 => simp only [Option.some.injEq] at h; subst h; simp only [apure, subL_true hs h1, subL_true hs h2]
    · cases h
  case slStr x lo hi =>
    split at h
    · next h1 h2 h3 => simp only [Option.some.injEq] at h; subst h; simp only [apure, subX_true hs h1, cut2_sub hs h2 h3]
    · cases h
  case slSl es x lo hi mx =>
    split at h
    · next x' lo' hi' mx' h1 h2 h3 h4 =>
      simp only [Option.some.injEq] at h; subst h
      cases mx with
      | none =>
        simp only [subO, Option.some.injEq] at h4; subst h4
        simp only [apure, subX_true hs h1, cut2_sub hs h2 h3]
      | some m =>
        simp only [subO] at h4
        split at h4
        · next m' hm =>
          simp only [Option.some.injEq] at h4; subst h4
          simp only [apure, subX_true hs h1, bnd_sub hs hm, cut2_sub hs h2 h3]
          have key : ∀ {o o' : Option X}, subO e o = some o' → (o = none ∧ o' = none) ∨ ∃ x y, o = some x ∧ o' = some y := by
            intro o o' h
            cases o with
            | none => simp only [subO, Option.some.injEq] at h; exact .inl ⟨rfl, h.symm⟩
            | some x =>
              simp only [subO] at h
              split at h
              · next y hy => simp only [Option.some.injEq] at h; exact .inr ⟨x, y, rfl, h.symm⟩
              · cases h
          rcases key h3 with ⟨rfl, rfl⟩ | ⟨q, r, rfl, rfl⟩
          · rfl
          · cases x'.ev .leaf with
            | none => rfl
            | some v => cases v with
              | sl es' a len cap =>
                simp only
                cases bnd .leaf cap m' with
                | none => rfl
                | some m =>
                  simp only
                  cases cut2 .leaf len m lo' (some r) with
                  | none => rfl
                  | some p => cases a <;> rfl
              | _ => rfl
        · cases h4
    · cases h
  case lenC n => simp only [Option.some.injEq] at h; subst h; rfl
  case mxmn mx xs =>
    split at h
    · next h1 => simp only [Option.some.injEq] at h; subst h; simp only [apure, subL_true hs h1]
    · cases h

def subRead (e : SE) : ReadOp → Option ReadOp
  | .slArr n es x lo hi => match subX e x, subO e lo, subO e hi with
    | some x, some lo, some hi => some (.slArr n es x lo hi)
    | _, _, _ => none
  | .ld1 x => o1 .ld1 (subX e x)
  | .ldN n x => o1 (.ldN n) (subX e x)
  | .lookup ks z ok m k => o2 (.lookup ks z ok) (subX e m) (subX e k)
  | .lenM x => o1 .lenM (subX e x)
  | .b2s x => o1 .b2s (subX e x)
  | .peq neg x y => o2 (.peq neg) (subX e x) (subX e y)
theorem subRead_true {o p : ReadOp} {H : AH} (hs : Sub e env) (h : subRead e o = some p) : aread o env H = aread p .leaf H := by
  cases o <;> simp only [subRead] at h <;>
    first
      | (obtain ⟨u, h1, rfl⟩ := o1_some h; simp only [aread, subX_true hs h1]; done)
      | (obtain ⟨u, v, h1, h2, rfl⟩ := o2_some h; simp only [aread, subX_true hs h1, subX_true hs h2]; done)
      | skip
  case slArr n es x lo hi =>
    split at h
    · next h1 h2 h3 => simp only [Option.some.injEq] at h; subst h; simp only [aread, subX_true hs h1, cut2_sub hs h2 h3]
    · cases h
def subAlloc (e : SE) : AllocOp → Option AllocOp
  | .newz zs => some (.newz zs)
  | .newb T => some (.newb T)
  | .box x => o1 .box (subX e x)
  | .bslice es len zs ps => match subP e ps with
    | some ps => some (.bslice es len zs ps)
    | none => none
  | .mkslice es bs zs l c => o2 (.mkslice es bs zs) (subX e l) (subX e c)
  | .mkmap => some .mkmap
  | .s2b x => o1 .s2b (subX e x)
  | .rangeS x => o1 .rangeS (subX e x)
theorem subAlloc_true {o p : AllocOp} (hs : Sub e env) (h : subAlloc e o = some p) : aalloc o env = aalloc p .leaf := by
  cases o <;> simp only [subAlloc] at h <;>
    first
      | (obtain ⟨u, h1, rfl⟩ := o1_some h; simp only [aalloc, subX_true hs h1]; done)
      | (obtain ⟨u, v, h1, h2, rfl⟩ := o2_some h; simp only [aalloc, subX_true hs h1, subX_true hs h2]; done)
      | (simp only [Option.some.injEq] at h; subst h; rfl)
      | skip
  case bslice es len zs ps =>
    split at h
    · next h1 => simp only [Option.some.injEq] at h; subst h; simp only [aalloc, subP_true hs h1]
    · cases h
def subAct (e : SE) : ActOp → Option ActOp
  | .st n a x => o2 (.st n) (subX e a) (subX e x)
  | .append es bs x y => o2 (.append es bs) (subX e x) (subX e y)
  | .mapUpd ks m k v => o3 (.mapUpd ks) (subX e m) (subX e k) (subX e v)
  | .del ks m k => o2 (.del ks) (subX e m) (subX e k)
  | .clearM m => o1 .clearM (subX e m)
  | .clearSl es zs x => o1 (.clearSl es zs) (subX e x)
  | .copy es x y => o2 (.copy es) (subX e x) (subX e y)
  | .nextS x => o1 .nextS (subX e x)
  | .rangeM x => o1 .rangeM (subX e x)
  | .nextM x => o1 .nextM (subX e x)
  | .entryM x => o1 .entryM (subX e x)
theorem subAct_true {o p : ActOp} {H : AH} (hs : Sub e env) (h : subAct e o = some p) : aact o env H = aact p .leaf H := by
  cases o <;> simp only [subAct] at h <;>
    first
      | (obtain ⟨u, h1, rfl⟩ := o1_some h; simp only [aact, subX_true hs h1]; done)
      | (obtain ⟨u, v, h1, h2, rfl⟩ := o2_some h; simp only [aact, subX_true hs h1, subX_true hs h2]; done)
      | (obtain ⟨u, v, w, h1, h2, h3, rfl⟩ := o3_some h; simp only [aact, subX_true hs h1, subX_true hs h2, subX_true hs h3]; done)
end
end Ram
