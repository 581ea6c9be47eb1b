/- A part of the proof: contracts of functions, over the abstract machine. -/
import Derived.Test.YtjaammiblfndaaaGreatDoorEvG
set_option linter.unusedVariables false
set_option linter.unusedSimpArgs false
set_option linter.all false
/- The abstract machine, run: what a run tells holds of the program. -/
namespace Ram
open Go
open Go.RowKit (Below)

mutual
/-- Are two values the same? (true: they are.) -/
def V.same : V → V → Bool
  | .b x, .b y => x == y
  | .i k n, .i k2 n2 => (k == k2) && (n == n2)
  | .s x, .s y => x == y
  | .p x, .p y => x == y
  | .sl e a l c, .sl e' a' l' c' => (e == e') && (a == a') && (l == l') && (c == c')
  | .m x, .m y => x == y
  | .nf, .nf => true
  | .ifc t v, .ifc t' v' => (t == t') && V.same v v'
  | .ni, .ni => true
  | .agg xs, .agg ys => V.sameL xs ys
  | .tup xs, .tup ys => V.sameL xs ys
  | _, _ => false
def V.sameL : List V → List V → Bool
  | [], [] => true
  | x :: xs, y :: ys => V.same x y && V.sameL xs ys
  | _, _ => false
end
mutual
theorem V.same_eq : ∀ {x y : V}, V.same x y = true → x = y
  | .b x, y, h => by cases y <;> simp [V.same] at h; rw [h]
  | .i k n, y, h => by cases y <;> simp [V.same] at h; rw [h.1, h.2]
  | .s x, y, h => by cases y <;> simp [V.same] at h; rw [h]
  | .p x, y, h => by cases y <;> simp [V.same] at h; rw [h]
  | .sl e a l c, y, h => by cases y <;> simp [V.same] at h; obtain ⟨⟨⟨h1, h2⟩, h3⟩, h4⟩ := h; rw [h1, h2, h3, h4]
  | .m x, y, h => by cases y <;> simp [V.same] at h; rw [h]
  | .f _ _ _, y, h => by cases y <;> simp [V.same] at h
  | .nf, y, h => by cases y <;> simp [V.same] at h; rfl
  | .ifc t v, y, h => by cases y <;> simp [V.same] at h; rw [h.1, V.same_eq h.2]
  | .ni, y, h => by cases y <;> simp [V.same] at h; rfl
  | .agg xs, y, h => by cases y <;> simp [V.same] at h; rw [V.sameL_eq h]
  | .tup xs, y, h => by cases y <;> simp [V.same] at h; rw [V.sameL_eq h]
theorem V.sameL_eq : ∀ {xs ys : List V}, V.sameL xs ys = true → xs = ys
  | [], ys, h => by cases ys <;> simp [V.sameL] at h; rfl
  | x :: xs, ys, h => by cases ys <;> simp [V.sameL] at h; rw [V.same_eq h.1, V.sameL_eq h.2]
end

/-- How a run of a piece ends. -/
inductive EvR where
  | go (env : Env) (H : AH)
  | exit (id : Nat) (env : Env) (H : AH)
  | ret (env : Env) (H : AH)
  | pan (v : V) (H : AH)
  | bad

def EvR.post (Q : AExit → Env → AH → Prop) : EvR → Prop
  | .go env H => Q .normal env H
  | .exit id env H => Q (.exit id) env H
  | .ret env H => Q .ret env H
  | .pan v H => Q (.pan v) .leaf H
  | .bad => False

section
variable (call : FuncId → List V → AH → Option (AEnd × AH))

def evOp_call (f : FuncId) (xs : List X) (env : Env) (H : AH) (k : V → AH → EvR) : EvR := match evs env xs with
  | some vs => match call f vs H with
    | some (.ret v, H') => k v H'
    | some (.pan v, H') => .pan v H'
    | none => .bad
  | none => .bad
def evOp_callV (g : X) (xs : List X) (env : Env) (H : AH) (k : V → AH → EvR) : EvR := match g.ev env with
  | some (.f (.func f) as bs) => match evs env xs with
    | some vs => match call f (as ++ vs ++ bs) H with
      | some (.ret v, H') => k v H'
      | some (.pan v, H') => .pan v H'
      | none => .bad
    | none => .bad
  | _ => .bad
def evOp_pan (x : X) (env : Env) (H : AH) : EvR := match x.ev env with
  | some (.ifc t v) => .pan (.ifc t v) H
  | _ => .bad
def evOp_pure (o : PureOp) (env : Env) (H : AH) (k : V → AH → EvR) : EvR := match apureF o env with
  | some v => k v H
  | none => .bad
def evOp_read (o : ReadOp) (env : Env) (H : AH) (k : V → AH → EvR) : EvR := match areadF o env H with
  | some v => k v H
  | none => .bad
def evOp_alloc (o : AllocOp) (env : Env) (H : AH) (k : V → AH → EvR) : EvR := match aallocF o env with
  | some (obj, mk) => fAlH H obj fun H' => k (mk H.next) H'
  | none => .bad
def evOp_act (o : ActOp) (env : Env) (H : AH) (k : V → AH → EvR) : EvR := match aactD o env H with
  | some (v, d) => d.fOn H fun H' => k v H'
  | none => .bad
def evOp (op : AOp) (env : Env) (H : AH) (k : V → AH → EvR) : EvR :=
  match op with
  | .call f xs => evOp_call call f xs env H k
  | .callV g xs => evOp_callV call g xs env H k
  | .pan x => evOp_pan x env H
  | .pure o => evOp_pure o env H k
  | .read o => evOp_read o env H k
  | .alloc o => evOp_alloc o env H k
  | .act o => evOp_act o env H k

def evOps : List AOper → Env → AH → EvR
  | [], env, H => .go env H
  | o :: r, env, H => match guardOk env o.guard with
    | some true => evOp call o.op env H fun v H' => fPut env o.dst v fun env => evOps r env H'
    | some false => fPut env o.dst (.tup []) fun env => evOps r env H
    | none => .bad

def evChk1 (env : Env) (H : AH) (o : AOper) : Bool := match guardOk env o.guard with
    | some true => match o.op with
      | .read p => match areadF p env H, o.dst with
        | some v, some d => match env.get d with
          | some u => V.same u v
          | none => false
        | some _, none => true
        | none, _ => false
      | _ => true
    | _ => true
def evChk (env : Env) (H : AH) : List AOper → Bool
  | [] => true
  | o :: r => evChk1 env H o && evChk env H r

def evItems (base : Nat) (H : AH) : List DItem → Env → Pend → (Env → Pend → EvR) → EvR
  | [], env, pend, K => K env pend
  | ⟨i, o, h⟩ :: r, env, pend, K => match guardOk env o.guard with
    | some true => match o.op with
      | .pure p => match apureF p env with
        | some v => fPut env o.dst v fun env => evItems base H r env pend K
        | none => .bad
      | .read p => match areadF p env H with
        | some v => fPut env o.dst v fun env => evItems base H r env pend K
        | none => .bad
      | .alloc p => match aallocF p env with
        | some (obj, mk) => fPut env o.dst (mk (base + i)) fun env => evItems base H r env ((i, h, obj) :: pend) K
        | none => .bad
      | _ => .bad
    | some false => fPut env o.dst (.tup []) fun env => evItems base H r env pend K
    | none => .bad

def evStages (base : Nat) : List DStage → Nat → Env → AH → Pend → EvR
  | [], _, _, _, _ => .bad
  | s :: r, k, env, H, pend => match evChk env H s.chk with
    | true => evItems base H s.items env pend fun env pend =>
      match s.act with
      | none => fFlush base k pend H fun H => .go env H
      | some o => match guardOk env o.guard with
        | some true => fFlush base k pend H fun H => evOp call o.op env H fun v H' => fPut env o.dst v fun env => evStages base r (k + 1) env H' (restAt k pend)
        | some false => fFlush base k pend H fun H => fPut env o.dst (.tup []) fun env => evStages base r (k + 1) env H (restAt k pend)
        | none => .bad
    | false => .bad

/-- Rounds. -/
def evRounds (x : Env → AH → EvR) : Nat → Env → AH → EvR
  | 0, _, _ => .bad
  | n + 1, env, H => match x env H with
    | .go env H => evRounds x n env H
    | r => r

def evCode (rounds : Nat) : ACode → Env → AH → EvR
  | .skip, env, H => .go env H
  | .reg ops, env, H => evOps call ops env H
  | .draw m l, env, H => fBump H m fun H' => evStages call H.next l 0 env H' []
  | .seq x y, env, H => match evCode rounds x env H with
    | .go env H => evCode rounds y env H
    | r => r
  | .cond c x y, env, H => match c.ev env with
    | some (.b true) => evCode rounds x env H
    | some (.b false) => evCode rounds y env H
    | _ => .bad
  | .block id x, env, H => match evCode rounds x env H with
    | .exit id' env H => if id' = id then .go env H else .exit id' env H
    | r => r
  | .loop x, env, H => evRounds (evCode rounds x) rounds env H
  | .rangeF _ _ _, _, _ => .bad
  | .exit id, env, H => .exit id env H
  | .ret, env, H => .ret env H
end

variable {P : Program} {W0 : World} {call : FuncId → List V → AH → Option (AEnd × AH)}

def CallOk (P : Program) (W0 : World) (call : FuncId → List V → AH → Option (AEnd × AH)) : Prop :=
  ∀ f vs H e H', call f vs H = some (e, H') → ACalls P W0 f vs H fun e' H'' => e' = e ∧ H'' = H'

theorem evOp_sound (hc : CallOk P W0 call) {Q : AExit → Env → AH → Prop} {op : AOp} {env : Env} {H : AH} {k : V → AH → EvR} {K : V → AH → Prop} (hk : ∀ v H, (k v H).post Q → K v H) (h : (evOp call op env H k).post Q) : aop1 P W0 Q op env H K := by
  unfold evOp at h
  unfold aop1
  cases op with
  | call f xs =>
    simp only [evOp_call] at h ⊢
    cases hvs : evs env xs with
    | none => rw [hvs] at h; exact h.elim
    | some vs =>
      rw [hvs] at h
      simp only at h ⊢
      cases he : call f vs H with
      | none => rw [he] at h; exact h.elim
      | some p =>
        obtain ⟨e, H'⟩ := p
        rw [he] at h
        refine (hc _ _ _ _ _ he).mono fun e' H'' hh => ?_
        obtain ⟨rfl, rfl⟩ := hh
        cases e' with
        | ret v => exact hk _ _ h
        | pan v => exact h
  | callV g xs =>
    simp only [evOp_callV] at h ⊢
    split at h
    · next f as bs hg =>
      rw [hg]
      cases hvs : evs env xs with
      | none => rw [hvs] at h; exact h.elim
      | some vs =>
        rw [hvs] at h
        simp only at h ⊢
        cases he : call f (as ++ vs ++ bs) H with
        | none => rw [he] at h; exact h.elim
        | some p =>
          obtain ⟨e, H'⟩ := p
          rw [he] at h
          refine (hc _ _ _ _ _ he).mono fun e' H'' hh => ?_
          obtain ⟨rfl, rfl⟩ := hh
          cases e' with
          | ret v => exact hk _ _ h
          | pan v => exact h
    · exact h.elim
  | pan x =>
    simp only [evOp_pan] at h ⊢
    split at h
    · next t v hx => rw [hx]; exact h
    · exact h.elim
  | pure o =>
    simp only [evOp_pure, apureF_eq] at h ⊢
    cases hv : apure o env with
    | none => rw [hv] at h; exact h.elim
    | some v => rw [hv] at h; exact hk _ _ h
  | read o =>
    simp only [evOp_read, areadF_eq] at h ⊢
    cases hv : aread o env H with
    | none => rw [hv] at h; exact h.elim
    | some v => rw [hv] at h; exact hk _ _ h
  | alloc o =>
    simp only [evOp_alloc, aallocF_eq, fAlH_eq] at h ⊢
    cases hv : aalloc o env with
    | none => rw [hv] at h; exact h.elim
    | some p => rw [hv] at h; exact hk _ _ h
  | act o =>
    simp only [evOp_act, aactD_eq, HD.fOn_eq] at h ⊢
    cases hv : aactD o env H with
    | none => rw [hv] at h; exact h.elim
    | some p => rw [hv] at h; exact hk _ _ h

theorem evOps_sound (hc : CallOk P W0 call) {Q : AExit → Env → AH → Prop} : ∀ {l : List AOper} {env : Env} {H : AH}, (evOps call l env H).post Q → aops P W0 Q l env H
  | [], _, _, h => h
  | o :: r, env, H, h => by
    unfold evOps at h
    simp only [fPut_eq] at h
    unfold aops
    cases hg : guardOk env o.guard with
    | none => rw [hg] at h; exact h.elim
    | some b =>
      rw [hg] at h
      cases b with
      | true => exact evOp_sound hc (fun v H h => evOps_sound hc h) h
      | false => exact evOps_sound hc (l := r) h

theorem evChk_sound {env : Env} {H : AH} : ∀ {l : List AOper}, evChk env H l = true → dchk env H l
  | [], _ => trivial
  | o :: r, h => by
    unfold evChk evChk1 at h
    rw [areadF_eq] at h
    rw [Bool.and_eq_true] at h
    refine ⟨?_, evChk_sound h.2⟩
    have h1 := h.1
    cases hg : guardOk env o.guard with
    | none => trivial
    | some b =>
      rw [hg] at h1
      cases b with
      | false => trivial
      | true =>
        simp only at h1 ⊢
        cases hop : o.op with
        | read p =>
          rw [hop] at h1
          simp only at h1 ⊢
          cases hv : aread p env H with
          | none => rw [hv] at h1; simp at h1
          | some v =>
            rw [hv] at h1
            cases hd : o.dst with
            | none => exact ⟨v, rfl, trivial⟩
            | some d =>
              rw [hd] at h1
              simp only at h1
              cases hu : env.get d with
              | none => rw [hu] at h1; cases h1
              | some u => rw [hu] at h1; exact ⟨v, rfl, by simp only [hasE]; rw [hu, V.same_eq h1]⟩
        | _ => trivial

theorem evItems_sound {Q : AExit → Env → AH → Prop} {base : Nat} {H : AH} : ∀ {l : List DItem} {env : Env} {pend : Pend} {k : Env → Pend → EvR} {K : Env → Pend → Prop}, (∀ env pend, (k env pend).post Q → K env pend) → (evItems base H l env pend k).post Q → ditems base H l env pend K
  | [], _, _, _, _, hk, h => hk _ _ h
  | ⟨i, o, hh⟩ :: r, env, pend, k, K, hk, h => by
    unfold evItems at h
    simp only [apureF_eq, areadF_eq, aallocF_eq, fPut_eq] at h
    unfold ditems
    cases hg : guardOk env o.guard with
    | none => rw [hg] at h; exact h.elim
    | some b =>
      rw [hg] at h
      cases b with
      | false => exact evItems_sound (l := r) hk h
      | true =>
        simp only at h ⊢
        cases hop : o.op with
        | pure p =>
          rw [hop] at h
          simp only at h ⊢
          cases hv : apure p env with
          | none => rw [hv] at h; exact h.elim
          | some v => rw [hv] at h; exact evItems_sound (l := r) hk h
        | read p =>
          rw [hop] at h
          simp only at h ⊢
          cases hv : aread p env H with
          | none => rw [hv] at h; exact h.elim
          | some v => rw [hv] at h; exact evItems_sound (l := r) hk h
        | alloc p =>
          rw [hop] at h
          simp only at h ⊢
          cases hv : aalloc p env with
          | none => rw [hv] at h; exact h.elim
          | some v => rw [hv] at h; exact evItems_sound (l := r) hk h
        | _ => rw [hop] at h; exact h.elim

theorem evStages_sound (hc : CallOk P W0 call) {Q : AExit → Env → AH → Prop} {base : Nat} : ∀ {l : List DStage} {k : Nat} {env : Env} {H : AH} {pend : Pend}, (evStages call base l k env H pend).post Q → dstages P W0 Q base l k env H pend
  | [], _, _, _, _, h => h
  | s :: r, k, env, H, pend, h => by
    unfold evStages at h
    simp only [fPut_eq, fFlush_eq] at h
    unfold dstages
    cases hchk : evChk env H s.chk with
    | false => rw [hchk] at h; exact h.elim
    | true =>
      rw [hchk] at h
      refine ⟨evChk_sound hchk, evItems_sound (fun env pend h => ?_) h⟩
      cases hact : s.act with
      | none => rw [hact] at h; exact h
      | some o =>
        rw [hact] at h
        simp only at h ⊢
        cases hg : guardOk env o.guard with
        | none => rw [hg] at h; exact h.elim
        | some b =>
          rw [hg] at h
          cases b with
          | true => exact evOp_sound hc (fun v H h => evStages_sound hc (l := r) h) h
          | false => exact evStages_sound hc (l := r) h

theorem evCode_sound (hc : CallOk P W0 call) {rounds : Nat} : ∀ {c : ACode} {Q : AExit → Env → AH → Prop} {env : Env} {H : AH}, (evCode call rounds c env H).post Q → awp P W0 c Q env H := by
  intro c
  induction c with
  | skip => intro Q env H h; exact h
  | reg ops => intro Q env H h; exact evOps_sound hc h
  | draw m l => intro Q env H h; simp only [evCode, fBump_eq] at h; exact evStages_sound hc h
  | seq x y ihx ihy =>
    intro Q env H h
    refine ihx ?_
    simp only [evCode] at h
    split at h
    · next env' H' he => rw [he]; exact ihy h
    · next hne =>
      cases he : evCode call rounds x env H with
      | go env' H' => exact (hne _ _ he).elim
      | _ => rw [he] at h; exact h
  | cond c x y ihx ihy =>
    intro Q env H h
    simp only [evCode] at h
    simp only [awp]
    split at h
    · next hcc => rw [hcc]; exact ihx h
    · next hcc => rw [hcc]; exact ihy h
    · exact h.elim
  | block id x ih =>
    intro Q env H h
    refine ih ?_
    simp only [evCode] at h
    split at h
    · next id' env' H' he =>
      rw [he]
      show inBlk id Q (.exit id') env' H'
      simp only [inBlk]
      split at h
      · next hi => rw [if_pos hi]; exact h
      · next hi => rw [if_neg hi]; exact h
    · next hne =>
      cases he : evCode call rounds x env H with
      | exit i env' H' => exact (hne _ _ _ he).elim
      | _ => rw [he] at h; exact h
  | loop x ih =>
    intro Q env H h
    refine ⟨fun k env H => (evRounds (evCode call rounds x) k env H).post Q, rounds, h, fun n env H hI => ih ?_⟩
    cases n with
    | zero => exact hI.elim
    | succ n =>
      simp only [evRounds] at hI
      split at hI
      · next env' H' he => rw [he]; exact ⟨n, by omega, hI⟩
      · next hne =>
        cases he : evCode call rounds x env H with
        | go env' H' => exact (hne _ _ he).elim
        | _ => rw [he] at hI; exact hI
  | rangeF g _ _ => intro Q env H h; exact h.elim
  | exit id => intro Q env H h; exact h
  | ret => intro Q env H h; exact h

/-- A function's run: what the library's functions do is told by lib. -/
def evFn (tab : FuncId → Option AFn) (lib : FuncId → List V → AH → Option (AEnd × AH)) (rounds : Nat) : Nat → FuncId → List V → AH → Option (AEnd × AH)
  | 0, _, _, _ => none
  | n + 1, f, args, H => match tab f with
    | some af => if args.length ≤ af.n then match evCode (evFn tab lib rounds n) rounds af.code (initEnv 0 args .leaf) H with
      | .go env H => match readAll env H af.res with
        | some vs => some (.ret (packRes vs), H)
        | none => none
      | .ret env H => match readAll env H af.res with
        | some vs => some (.ret (packRes vs), H)
        | none => none
      | .pan v H => some (.pan v, H)
      | _ => none else none
    | none => lib f args H

theorem evFn_sound {tab : FuncId → Option AFn} {lib : FuncId → List V → AH → Option (AEnd × AH)} {rounds : Nat} (ht : ∀ f af, tab f = some af → compFn P f = some af) (hl : CallOk P W0 lib) : ∀ n, CallOk P W0 (evFn tab lib rounds n)
  | 0, _, _, _, _, _, h => by cases h
  | n + 1, f, args, H, e, H', h => by
    unfold evFn at h
    split at h
    · next af haf =>
      split at h
      · next hlen =>
        refine acalls_of (ht _ _ haf) hlen (evCode_sound (evFn_sound (rounds := rounds) ht hl n) (rounds := rounds) ?_)
        split at h
        · next env H1 he =>
          rw [he]
          simp only [EvR.post, bodyQ]
          split at h
          · next vs hvs => rw [hvs]; simp only [Option.some.injEq, Prod.mk.injEq] at h; exact ⟨h.1, h.2⟩
          · cases h
        · next env H1 he =>
          rw [he]
          simp only [EvR.post, bodyQ]
          split at h
          · next vs hvs => rw [hvs]; simp only [Option.some.injEq, Prod.mk.injEq] at h; exact ⟨h.1, h.2⟩
          · cases h
        · next v H1 he =>
          rw [he]
          simp only [EvR.post, bodyQ]
          simp only [Option.some.injEq, Prod.mk.injEq] at h; exact ⟨h.1, h.2⟩
        · cases h
      · cases h
    · exact hl _ _ _ _ _ h

/-- Plain values. -/
def V.scalar : V → Bool
  | .b _ | .i _ _ | .s _ => true
  | _ => false
def V.plain : V → Bool
  | .agg l | .tup l => l.all V.scalar
  | v => v.scalar
theorem RV.scalar {ι ι' : Inj} {D D' : Nat → Prop} {v : V} {c : Value} (h : V.scalar v = true) (r : RV ι D v c) : RV ι' D' v c := by
  cases v <;> simp [V.scalar] at h <;> cases r <;> constructor
theorem RVs.scalar {ι ι' : Inj} {D D' : Nat → Prop} {vs : List V} {cs : List Value} (h : vs.all V.scalar = true) (r : RVs ι D vs cs) : RVs ι' D' vs cs := by
  induction vs generalizing cs with
  | nil => cases r; exact .nil
  | cons v vs ih =>
    cases r with
    | cons _ _ _ _ h1 h2 =>
      simp only [List.all_cons, Bool.and_eq_true] at h
      exact .cons _ _ _ _ (h1.scalar h.1) (ih h.2 h2)
theorem RV.plain {ι ι' : Inj} {D D' : Nat → Prop} {v : V} {c : Value} (h : V.plain v = true) (r : RV ι D v c) : RV ι' D' v c := by
  cases v with
  | agg l => cases r with | agg _ _ h1 => exact .agg _ _ (h1.scalar h)
  | tup l => cases r with | tup _ _ h1 => exact .tup _ _ (h1.scalar h)
  | _ => exact RV.scalar h r
theorem RVs.plain {ι ι' : Inj} {D D' : Nat → Prop} {vs : List V} {cs : List Value} (h : vs.all V.plain = true) (r : RVs ι D vs cs) : RVs ι' D' vs cs := by
  induction vs generalizing cs with
  | nil => cases r; exact .nil
  | cons v vs ih =>
    cases r with
    | cons _ _ _ _ h1 h2 =>
      simp only [List.all_cons, Bool.and_eq_true] at h
      exact .cons _ _ _ _ (h1.plain h.1) (ih h.2 h2)

/-- What holds of a call at the empty heap, in every world above this one, holds at every heap. -/
theorem acalls_anywhere {f : FuncId} {args : List V} {v : V} (ha : args.all V.plain = true) (hv : V.plain v = true) (h : ∀ W, Below W0.heap.size W0 W → ACalls P W f args AH.none fun e _ => e = .ret v) {H : AH} : ACalls P W0 f args H fun e H' => e = .ret v ∧ H = H' := by
  have hb := (h W0 (Below.refl _ _)).1
  refine grown_of hb fun ι D w cs hvs hR => ?_
  refine ((h w hR.below).2 (fun _ => ⟨0, 0, 0⟩) (fun _ => False) w cs (hvs.plain ha) (rel_none w _)).mono fun e w' ⟨ae, ι', D', H', g1, g2, g3, _⟩ => ?_
  subst g1
  obtain ⟨c, rfl, r⟩ := g2
  exact ⟨c, rfl, r.plain hv, g3.below⟩

/-- A run of a body tells it. -/
def EvR.told (rs : List ARes) : EvR → Bool
  | .go env H | .ret env H => match readAll env H rs with
    | some [.b true] => true
    | _ => false
  | _ => false
theorem post_told {rs : List ARes} {r : EvR} (h : r.told rs = true) : r.post (bodyQ rs fun e _ => e = .ret (.b true)) := by
  cases r with
  | go env H =>
    simp only [EvR.told] at h
    simp only [EvR.post, bodyQ]
    split at h
    · next hr => rw [hr]; rfl
    · cases h
  | ret env H =>
    simp only [EvR.told] at h
    simp only [EvR.post, bodyQ]
    split at h
    · next hr => rw [hr]; rfl
    · cases h
  | _ => cases h

/-- A run tells it. -/
def toldTrue : Option (AEnd × AH) → Bool
  | some (.ret (.b true), _) => true
  | _ => false
theorem of_told {call : FuncId → List V → AH → Option (AEnd × AH)} (hc : CallOk P W0 call) {f : FuncId} {args : List V} {H : AH} (h : toldTrue (call f args H) = true) : ACalls P W0 f args H fun e _ => e = .ret (.b true) := by
  unfold toldTrue at h
  split at h
  · next H' he => exact (hc _ _ _ _ _ he).mono fun e H'' h => h.1
  · cases h
end Ram
