/- A part of the proof: contracts of functions, over the abstract machine. -/
import Derived.Test.YtjaammiblfndaaaGreatDoorFxk
set_option linter.unusedVariables false
set_option linter.unusedSimpArgs false
set_option linter.all false
/- Code, worked out ahead of the run; what a run tells holds of the program. -/
namespace Ram
open Go
noncomputable section

abbrev KT := V → AH → Bool
/-- A function that can be run. -/
structure RunF (P : Program) (f : FuncId) where
  run : List V → AH → KT → Bool
  ok : ∀ W0 vs H k, run vs H k = true → ACalls P W0 f vs H fun e H' => ∃ v, e = .ret v ∧ k v H' = true
/-- One that is not to be run. -/
def noC (P : Program) (f : FuncId) : RunF P f := ⟨fun _ _ _ => false, fun _ _ _ _ h => by cases h⟩
structure Alt (P : Program) where
  f : FuncId
  c : RunF P f
/-- A round of a loop over a function, the k-th one of function f, that can be run. -/
structure YAlt (P : Program) where
  f : Nat
  k : Nat
  run : Nat → Env → List V → AH → KT → Bool
  ok : ∀ W0 n st pend env vs H kt, H.get n = some (.loop st pend f k env) → run n env vs H kt = true → AYield P W0 n vs H fun e H' => ∃ v, e = .ret v ∧ kt v H' = true
inductive SOp (P : Program) where
  | pure (o : PureOp)
  | read (o : ReadOp)
  | alloc (o : AllocOp)
  | act (o : ActOp)
  | call (f : FuncId) (xs : List X) (c : RunF P f)
  | callV (g : X) (xs : List X) (l : List (Alt P)) (ys : List (YAlt P))
  | callG (f : FuncId) (xs : List X) (vs0 : List V) (v : V) (ok : ∀ W0 H, ACalls P W0 f vs0 H fun e H' => e = .ret v ∧ H = H')
  | callD (f : FuncId) (xs : List X) (vs0 : List V) (lo cnt : Nat) (ok : ∃ r : Nat, lo ≤ r ∧ r < lo + cnt ∧ ∀ W0 H, ACalls P W0 f vs0 H fun e H' => e = .ret (.i .i64 r) ∧ H = H')
  | pan (x : X)
section
variable {P : Program}
/-- A function's value: which one. -/
def asF (v : V) (g : FuncId → List V → List V → Bool) : Bool := V.rec (motive_1 := fun _ => Bool) (motive_2 := fun _ => Bool) (fun _ => false) (fun _ _ => false) (fun _ => false) (fun _ => false) (fun _ _ _ _ => false) (fun _ => false) (fun fn as bs _ _ => (match fn with | .func f => g f as bs | _ => false)) false (fun _ _ _ => false) false (fun _ _ => false) (fun _ _ => false) false (fun _ _ _ _ => false) v
theorem asF_true {v : V} {g : FuncId → List V → List V → Bool} (h : asF v g = true) : ∃ f as bs, v = .f (.func f) as bs ∧ g f as bs = true := by
  cases v with
  | f fn as bs => cases fn with
    | func f => exact ⟨f, as, bs, rfl, h⟩
    | _ => cases h
  | _ => cases h
def disp1 (a : Alt P) (ih : Bool) (f : FuncId) (vs : List V) (H : AH) (k : KT) : Bool := iteB (Nat.beq a.f f) ih (a.c.run vs H k)
def disp (l : List (Alt P)) (f : FuncId) (vs : List V) (H : AH) (k : KT) : Bool := List.rec (motive := fun _ => Bool) false (fun a _ ih => disp1 a ih f vs H k) l
theorem disp_true {W0 : World} {f : FuncId} {vs : List V} {H : AH} {k : KT} : ∀ {l : List (Alt P)}, disp l f vs H k = true → ACalls P W0 f vs H fun e H' => ∃ v, e = .ret v ∧ k v H' = true
  | [], h => by cases h
  | a :: l, h => by
    replace h := iteB_true h; rcases h with ⟨h1, h⟩ | ⟨_, h⟩
    · have h1 := Nat.eq_of_beq_eq_true h1; subst h1; exact a.c.ok W0 vs H k h
    · exact disp_true (l := l) h
def opCallV (l : List (Alt P)) (g : V) (vs : List V) (H : AH) (k : KT) : Bool := asF g fun f as bs => catL vs bs fun r => catL as r fun r => disp l f r H k
theorem opCallV_true {W0 : World} {l : List (Alt P)} {g : V} {vs : List V} {H : AH} {k : KT} (h : opCallV l g vs H k = true) : ∃ f as bs, g = .f (.func f) as bs ∧ ACalls P W0 f (as ++ vs ++ bs) H fun e H' => ∃ v, e = .ret v ∧ k v H' = true := by
  replace h := asF_true h; obtain ⟨f, as, bs, rfl, h⟩ := h
  rw [catL_eq, catL_eq, ← List.append_assoc] at h
  exact ⟨f, as, bs, rfl, disp_true h⟩
/-- A yield's value: of which loop. -/
def asY (v : V) (g : Nat → Bool) : Bool := match v with
  | .f (.yield n) [] [] => g n
  | _ => false
def asLoop (o : AO) (g : Nat → Nat → Env → Bool) : Bool := match o with
  | .loop _ _ f k env => g f k env
  | _ => false
def dispY (ys : List (YAlt P)) (n f k : Nat) (env : Env) (vs : List V) (H : AH) (kt : KT) : Bool := match ys with
  | [] => false
  | a :: ys => match Nat.beq a.f f, Nat.beq a.k k with
    | true, true => a.run n env vs H kt
    | _, _ => dispY ys n f k env vs H kt
theorem dispY_true {W0 : World} {n f k : Nat} {st : LoopState} {pend : Option (Option Nat)} {env : Env} {vs : List V} {H : AH} {kt : KT} (hg : H.get n = some (.loop st pend f k env)) : ∀ {ys : List (YAlt P)}, dispY ys n f k env vs H kt = true → AYield P W0 n vs H fun e H' => ∃ v, e = .ret v ∧ kt v H' = true
  | [], h => by cases h
  | a :: ys, h => by
    simp only [dispY] at h
    split at h
    · next h1 h2 =>
      have h1 := Nat.eq_of_beq_eq_true h1
      have h2 := Nat.eq_of_beq_eq_true h2
      subst h1 h2
      exact a.ok W0 n st pend env vs H kt hg h
    · exact dispY_true hg h
def opCallY (l : List (Alt P)) (ys : List (YAlt P)) (g : V) (vs : List V) (H : AH) (k : KT) : Bool := match g with
  | .f (.yield _) _ _ => asY g fun n => getH H n fun o => asLoop o fun f i env => dispY ys n f i env vs H k
  | g => opCallV l g vs H k
theorem opCallY_true {W0 : World} {l : List (Alt P)} {ys : List (YAlt P)} {g : V} {vs : List V} {H : AH} {k : KT} (h : opCallY l ys g vs H k = true) : (∃ f as bs, g = .f (.func f) as bs ∧ ACalls P W0 f (as ++ vs ++ bs) H fun e H' => ∃ v, e = .ret v ∧ k v H' = true) ∨
    ∃ n, g = .f (.yield n) [] [] ∧ AYield P W0 n vs H fun e H' => ∃ v, e = .ret v ∧ k v H' = true := by
  unfold opCallY at h
  split at h
  · next n as bs =>
    unfold asY at h
    split at h
    · next m he =>
      replace h := getH_true h; obtain ⟨o, h1, h⟩ := h
      unfold asLoop at h
      split at h
      · exact .inr ⟨m, he, dispY_true h1 h⟩
      · cases h
    · cases h
  · exact .inl (opCallV_true h)
/-- Behind the iterator: the jump that is left to do. -/
def opRan (n : Nat) (H : AH) (kn : AH → Bool) (ke : Nat → AH → Bool) (kr : AH → Bool) : Bool := getH H n fun o => match o with
  | .loop .busy _ _ _ _ => false
  | .loop _ none _ _ _ => setH H n .dead kn
  | .loop _ (some none) _ _ _ => setH H n .dead kr
  | .loop _ (some (some i)) _ _ _ => setH H n .dead fun H => ke i H
  | _ => false
theorem opRan_true {n : Nat} {H : AH} {kn : AH → Bool} {ke : Nat → AH → Bool} {kr : AH → Bool} {Q : AExit → Env → AH → Prop} {env : Env} (h : opRan n H kn ke kr = true) (h1 : ∀ H, kn H = true → Q .normal env H) (h2 : ∀ i H, ke i H = true → Q (.exit i) env H) (h3 : ∀ H, kr H = true → Q .ret env H) : ranQ Q env n H := by
  replace h := getH_true h; obtain ⟨o, hg, h⟩ := h
  unfold ranQ
  rw [hg]
  split at h
  · cases h
  · next st _ _ _ hnb => cases st <;> first | exact h1 _ (setH_true h) | exact (hnb rfl).elim
  · next st _ _ _ hnb => cases st <;> first | exact h3 _ (setH_true h) | exact (hnb rfl).elim
  · next st i _ _ _ hnb => cases st <;> first | exact h2 _ _ (setH_true h) | exact (hnb rfl).elim
  · cases h
def opGetE (env : Env) (t : Nat) (g : V → Bool) : Bool := getT env t g
def opBusy (n : Nat) (H : AH) (K : AH → Bool) : Bool := getH H n fun o => match o with
  | .loop .ready p f k env => setH H n (.loop .busy p f k env) K
  | _ => false
theorem opBusy_true {n : Nat} {H : AH} {K : AH → Bool} (h : opBusy n H K = true) : ∃ p f k env, H.get n = some (.loop .ready p f k env) ∧ K (H.set n (.loop .busy p f k env)) = true := by
  replace h := getH_true h; obtain ⟨o, hg, h⟩ := h
  split at h
  · exact ⟨_, _, _, _, hg, setH_true h⟩
  · cases h
def opYld (n : Nat) (H : AH) (j : Option (Option Nat)) (K : AH → Bool) : Bool := getH H n fun o => match o with
  | .loop _ _ f k env => match j with
    | none => setH H n (.loop .ready none f k env) K
    | some j => setH H n (.loop .done (some j) f k env) K
  | _ => false
theorem opYld_true {n : Nat} {H : AH} {j : Option (Option Nat)} {K : AH → Bool} (h : opYld n H j K = true) : ∃ st p f k env, H.get n = some (.loop st p f k env) ∧ K (H.set n (.loop (match j with | none => .ready | some _ => .done) j f k env)) = true := by
  replace h := getH_true h; obtain ⟨o, hg, h⟩ := h
  split at h
  · cases j with
    | none => exact ⟨_, _, _, _, _, hg, setH_true h⟩
    | some j => exact ⟨_, _, _, _, _, hg, setH_true h⟩
  · cases h
def toEnv : List Nat → SE → Env
  | [], _ => .leaf
  | t :: l, e => match lk e t with
    | some v => (toEnv l e).set t v
    | none => toEnv l e
theorem toEnv_sub {e : SE} {env : Env} (hs : Sub e env) : ∀ {l : List Nat} (t : Nat) (v : V), (toEnv l e).get t = some v → env.get t = some v
  | [], t, v, h => by cases h
  | u :: l, t, v, h => by
    simp only [toEnv] at h
    split at h
    · next x hx =>
      rw [Tr.get_set] at h
      split at h
      · next ht => subst ht; simp only [Option.some.injEq] at h; subst h; exact hs _ _ hx
      · exact toEnv_sub hs t v h
    · exact toEnv_sub hs t v h

/-- Is an operation wanted? -/
def opGuard (g : V) (want : Bool) (run : KT → Bool) (H : AH) (k : KT) : Bool := V.rec (motive_1 := fun _ => Bool) (motive_2 := fun _ => Bool) (fun b => iteB (Bool.rec (motive := fun _ => Bool) (Bool.rec (motive := fun _ => Bool) true false want) want b) (k (.tup []) H) (run k)) (fun _ _ => false) (fun _ => false) (fun _ => false) (fun _ _ _ _ => false) (fun _ => false) (fun _ _ _ _ _ => false) false (fun _ _ _ => false) false (fun _ _ => false)
  (fun l _ => List.rec (motive := fun _ => Bool) (k (.tup []) H) (fun _ _ _ => false) l) false (fun _ _ _ _ => false) g
theorem opGuard_true {e : SE} {env : Env} {d : Nat} {g : V} {want : Bool} {run : KT → Bool} {H : AH} {k : KT} (hs : Sub e env) (hg : lk e d = some g) (h : opGuard g want run H k = true) : (guardOk env (some (d, want)) = some true ∧ run k = true) ∨ (guardOk env (some (d, want)) = some false ∧ k (.tup []) H = true) := by
  have hg := hs _ _ hg
  simp only [guardOk, hg]
  cases g with
  | b x =>
    cases x <;> cases want
    · exact .inl ⟨rfl, h⟩
    · exact .inr ⟨rfl, h⟩
    · exact .inr ⟨rfl, h⟩
    · exact .inl ⟨rfl, h⟩
  | tup l =>
    cases l with
    | nil => exact .inr ⟨rfl, h⟩
    | cons => cases h
  | _ => cases h
/-- Is what an operation read as it was, if it is wanted? -/
def opChk (g : V) (want : Bool) (c : Bool → Bool) (H : AH) (t : Bool) : Bool := opGuard g want (fun _ => c t) H (fun _ _ => t)
/-- Regions that draw their order. -/
def opSame (u v : V) (t : Bool) : Bool := iteB (V.same u v) false t
theorem opSame_true {u v : V} {t : Bool} (h : opSame u v t = true) : u = v ∧ t = true := by
  replace h := iteB_f h; obtain ⟨h1, h⟩ := h
  exact ⟨V.same_eq h1, h⟩
def opPlus (m n : Nat) (K : Nat → Bool) : Bool := fN (Nat.add m n) K
def opSetA (H : AH) (base i : Nat) (o : AO) (K : AH → Bool) : Bool := fN (Nat.add base i) fun id => setH H id o K
theorem opSetA_true {H : AH} {base i : Nat} {o : AO} {K : AH → Bool} (h : opSetA H base i o K = true) : K (H.set (base + i) o) = true := setH_true h
def opBump (H : AH) (m : Nat) (K : Nat → AH → Bool) : Bool := AH.rec (motive := fun _ => Bool) (fun n t => fN (Nat.add n m) fun n' => K n ⟨n', t⟩) H
theorem opBump_eq (H : AH) (m : Nat) (K : Nat → AH → Bool) : opBump H m K = K H.next (H.bump m) := by
  cases m <;> rfl

/-- Some registers alone. -/
def keepS (L : List Nat) : SE → SE
  | [] => []
  | (r, v) :: e => match memN r L with
    | true => (r, v) :: keepS L e
    | false => keepS L e
theorem keepS_mem {L : List Nat} : ∀ {e : SE} {n : Nat} {v : V}, lk (keepS L e) n = some v → memN n L = true
  | [], _, _, h => by cases h
  | (r, u) :: e, n, v, h => by
    simp only [keepS] at h
    cases hm : memN r L with
    | true =>
      rw [hm] at h
      simp only [lk] at h
      cases hb : Nat.beq r n with
      | true => rw [← Nat.eq_of_beq_eq_true hb]; exact hm
      | false => rw [hb] at h; exact keepS_mem (e := e) h
    | false => rw [hm] at h; exact keepS_mem (e := e) h
theorem keepS_lk {L : List Nat} : ∀ {e : SE} {n : Nat} {v : V}, lk (keepS L e) n = some v → lk e n = some v
  | [], _, _, h => by cases h
  | (r, u) :: e, n, v, h => by
    have hmem := keepS_mem h
    simp only [keepS] at h
    simp only [lk]
    cases hm : memN r L with
    | true =>
      rw [hm] at h
      simp only [lk] at h
      cases hb : Nat.beq r n with
      | true => rw [hb] at h; exact h
      | false => rw [hb] at h; exact keepS_lk (e := e) h
    | false =>
      rw [hm] at h
      cases hb : Nat.beq r n with
      | true => rw [Nat.eq_of_beq_eq_true hb, hmem] at hm; cases hm
      | false => exact keepS_lk (e := e) h
theorem Sub.keep {e : SE} {env : Env} (h : Sub e env) {l : List Nat} : Sub (keepS l e) env := fun n v hn => h n v (keepS_lk hn)
/-- What is left open at a join: the values of some registers. -/
def FnT : Nat → Type
  | 0 => AH → Bool
  | n + 1 => V → FnT n
def badT : (n : Nat) → FnT n
  | 0 => fun _ => false
  | n + 1 => fun _ => badT n
def mkJ : (live : List Nat) → (SE → AH → Bool) → SE → FnT live.length
  | [], F, acc => fun H => F acc H
  | r :: l, F, acc => fun v => mkJ l F ((r, v) :: acc)
def callJ : (live : List Nat) → SE → FnT live.length → AH → Bool
  | [], _, J, H => J H
  | r :: l, e, J, H => match lk e r with
    | some v => callJ l e (J v) H
    | none => false
theorem callJ_mkJ {F : SE → AH → Bool} {e : SE} {env : Env} {H : AH} (hs : Sub e env) : ∀ {live : List Nat} {acc : SE}, Sub acc env → callJ live e (mkJ live F acc) H = true → ∃ e', Sub e' env ∧ F e' H = true
  | [], acc, ha, h => ⟨acc, ha, h⟩
  | r :: l, acc, ha, h => by
    simp only [callJ] at h
    split at h
    · next v hv => exact callJ_mkJ hs (live := l) (ha.cons (hs _ _ hv)) h
    · cases h
theorem callJ_bad {e : SE} {H : AH} : ∀ {live : List Nat}, callJ live e (badT live.length) H = false
  | [] => rfl
  | r :: l => by
    simp only [callJ]
    split
    · exact callJ_bad (live := l)
    · rfl
def opJoin (n : Nat) (J : FnT n) (M : FnT n → Bool) : Bool := M J
@[irreducible] def fuelN : Nat := nat_lit 1000000
def loopN (n : Nat) (body : FnT n → FnT n) (k : Nat) : FnT n := Nat.rec (motive := fun _ => FnT n) (badT n) (fun _ ih => body ih) k
def opLoop (n : Nat) (body : FnT n → FnT n) : FnT n := loopN n body fuelN
def opCond (v : V) (f t : Bool) : Bool := asB v fun b => iteB b f t

end
/-- Are they the very same? To be struck ahead of the run. -/
def opAssert (vs us : List V) (t : Bool) : Bool := @decide (vs = us) (Classical.propDecidable _) && t
theorem opAssert_self (vs : List V) (t : Bool) : opAssert vs vs t = t := by simp [opAssert]
theorem opAssert_true {vs us : List V} {t : Bool} (h : opAssert vs us t = true) : vs = us ∧ t = true := by
  simpa [opAssert] using h
/-- All of so many. -/
def all1 (f : Nat → Bool) (ih : Nat → Bool) (i : Nat) : Bool := iteB (f i) false (fN (Nat.succ i) ih)
def opAll (lo cnt : Nat) (f : Nat → Bool) : Bool := Nat.rec (motive := fun _ => Nat → Bool) (fun _ => true) (fun _ ih i => all1 f ih i) cnt lo
theorem opAll_true {f : Nat → Bool} : ∀ {cnt lo : Nat}, opAll lo cnt f = true → ∀ r, lo ≤ r → r < lo + cnt → f r = true
  | 0, lo, h, r, h1, h2 => by omega
  | cnt + 1, lo, h, r, h1, h2 => by
    replace h := iteB_f h; obtain ⟨h3, h⟩ := h
    by_cases e : r = lo
    · rw [e]; exact h3
    · exact opAll_true (cnt := cnt) (lo := lo + 1) h r (by omega) (by omega)
/-- The words, by name. -/
structure Ops (P : Program) where
  oPure : PureOp → (V → Bool) → Bool
  oMvS : V → (V → Bool) → Bool
  oAdd : V → V → (V → Bool) → Bool
  oSub : V → V → (V → Bool) → Bool
  oMul : V → V → (V → Bool) → Bool
  oQuo : V → V → (V → Bool) → Bool
  oRem : V → V → (V → Bool) → Bool
  oAnd : V → V → (V → Bool) → Bool
  oOr : V → V → (V → Bool) → Bool
  oShl : V → V → (V → Bool) → Bool
  oShr : V → V → (V → Bool) → Bool
  oEql : V → V → (V → Bool) → Bool
  oNeq : V → V → (V → Bool) → Bool
  oLss : V → V → (V → Bool) → Bool
  oLeq : V → V → (V → Bool) → Bool
  oGtr : V → V → (V → Bool) → Bool
  oGeq : V → V → (V → Bool) → Bool
  oPick : V → V → V → (V → Bool) → Bool
  oBuild : List V → List (Nat × Nat × X) → (V → Bool) → Bool
  oNilCheck : V → (V → Bool) → Bool
  oFieldAddr : Nat → V → (V → Bool) → Bool
  oIdxAddrSl : Nat → V → V → (V → Bool) → Bool
  oIdxAddrArr : Nat → Nat → V → V → (V → Bool) → Bool
  oField : Bool → Nat → Nat → V → (V → Bool) → Bool
  oIdxArr : Bool → Nat → Nat → V → V → (V → Bool) → Bool
  oIdxStr : V → V → (V → Bool) → Bool
  oEqB : Bool → V → V → (V → Bool) → Bool
  oNot : V → (V → Bool) → Bool
  oNeg : V → (V → Bool) → Bool
  oConv : IntKind → V → (V → Bool) → Bool
  oLenS : V → (V → Bool) → Bool
  oLenSl : V → (V → Bool) → Bool
  oExtract : Nat → V → (V → Bool) → Bool
  oSlStr : V → Option V → Option V → (V → Bool) → Bool
  oSlSl : Nat → V → Option V → Option V → (V → Bool) → Bool
  oRead : ReadOp → AH → (V → Bool) → Bool
  oLd1 : V → AH → (V → Bool) → Bool
  oLdN : Nat → V → AH → (V → Bool) → Bool
  oLookup : KS → V → Bool → V → V → AH → (V → Bool) → Bool
  oObj : AllocOp → Nat → (AO → V → Bool) → Bool
  oBox : V → Nat → (AO → V → Bool) → Bool
  oBslice : Nat → Nat → List V → List (Nat × Nat × X) → Nat → (AO → V → Bool) → Bool
  oS2b : V → Nat → (AO → V → Bool) → Bool
  oNext : AH → (Nat → Bool) → Bool
  oLay : AH → AO → (AH → Bool) → Bool
  oAct : ActOp → AH → KT → Bool
  oSt : Nat → V → V → AH → KT → Bool
  oAppend : Nat → Nat → V → V → AH → KT → Bool
  oMapUpd : KS → V → V → V → AH → KT → Bool
  oCallV : List (Alt P) → V → List V → AH → KT → Bool
  oCallY : List (Alt P) → List (YAlt P) → V → List V → AH → KT → Bool
  oGetE : Env → Nat → (V → Bool) → Bool
  oBusy : Nat → AH → (AH → Bool) → Bool
  oYld : Nat → AH → Option (Option Nat) → (AH → Bool) → Bool
  oRan : Nat → AH → (AH → Bool) → (Nat → AH → Bool) → (AH → Bool) → Bool
  oGuard : V → Bool → (KT → Bool) → AH → KT → Bool
  oChk : V → Bool → (Bool → Bool) → AH → Bool → Bool
  oSame : V → V → Bool → Bool
  oPlus : Nat → Nat → (Nat → Bool) → Bool
  oSetA : AH → Nat → Nat → AO → (AH → Bool) → Bool
  oBump : AH → Nat → (Nat → AH → Bool) → Bool
  oAssert : List V → List V → Bool → Bool
  oAll : Nat → Nat → (Nat → Bool) → Bool
  oJoin : (n : Nat) → FnT n → (FnT n → Bool) → Bool
  oLoop : (n : Nat) → (FnT n → FnT n) → FnT n
  oCond : V → Bool → Bool → Bool
def theOps (P : Program) : Ops P := ⟨opPure, opMvS, opAdd, opSub, opMul, opQuo, opRem, opAnd, opOr, opShl, opShr, opEql, opNeq, opLss, opLeq, opGtr, opGeq, opPick, opBuild, opNilCheck, opFieldAddr, opIdxAddrSl, opIdxAddrArr, opField, opIdxArr, opIdxStr, opEqB, opNot, opNeg, opConv, opLenS, opLenSl, opExtract, opSlStr, opSlSl, opRead, opLd1, opLdN, opLookup, opObj, opBox, opBslice, opS2b, opNext, opLay, opAct, opSt, opAppend, opMapUpd, opCallV, opCallY, opGetE, opBusy, opYld, opRan, opGuard, opChk, opSame, opPlus, opSetA, opBump, opAssert, opAll, opJoin, opLoop, opCond⟩
theorem the_oAssert (P : Program) : (theOps P).oAssert = opAssert := rfl
theorem the_oAll (P : Program) : (theOps P).oAll = opAll := rfl
theorem the_oGuard (P : Program) : (theOps P).oGuard = opGuard := rfl
theorem the_oChk (P : Program) : (theOps P).oChk = opChk := rfl
theorem the_oBump (P : Program) : (theOps P).oBump = opBump := rfl
theorem the_oPlus (P : Program) : (theOps P).oPlus = opPlus := rfl
theorem the_oSame (P : Program) : (theOps P).oSame = opSame := rfl
theorem the_oSetA (P : Program) : (theOps P).oSetA = opSetA := rfl
theorem the_oCond (P : Program) : (theOps P).oCond = opCond := rfl
theorem the_oNext (P : Program) : (theOps P).oNext = opNext := rfl
theorem the_oLay (P : Program) : (theOps P).oLay = opLay := rfl
theorem the_oJoin (P : Program) : (theOps P).oJoin = opJoin := rfl
theorem the_oLoop (P : Program) : (theOps P).oLoop = opLoop := rfl
theorem the_oCallY (P : Program) : (theOps P).oCallY = opCallY := rfl
theorem the_oGetE (P : Program) : (theOps P).oGetE = opGetE := rfl
theorem the_oBusy (P : Program) : (theOps P).oBusy = opBusy := rfl
theorem the_oYld (P : Program) : (theOps P).oYld = opYld := rfl
theorem the_oRan (P : Program) : (theOps P).oRan = opRan := rfl
theorem the_oCallV (P : Program) : (theOps P).oCallV = opCallV := rfl
section
variable {P : Program} {k : V → Bool}
def opBin (O : Ops P) (op : BinOp) (a b : V) (k : V → Bool) : Bool := match op with
  | .add => O.oAdd a b k
  | .sub => O.oSub a b k
  | .mul => O.oMul a b k
  | .quo => O.oQuo a b k
  | .rem => O.oRem a b k
  | .and => O.oAnd a b k
  | .or => O.oOr a b k
  | .shl => O.oShl a b k
  | .shr => O.oShr a b k
  | .eql => O.oEql a b k
  | .neq => O.oNeq a b k
  | .lss => O.oLss a b k
  | .leq => O.oLeq a b k
  | .gtr => O.oGtr a b k
  | .geq => O.oGeq a b k
  | op => O.oPure (.bin op (.c a) (.c b)) k
theorem opBin_true {op : BinOp} {a b : V} (h : opBin (theOps P) op a b k = true) : ∃ v, apure (.bin op (.c a) (.c b)) .leaf = some v ∧ k v = true := by
  cases op with
  | add => exact opAdd_true h
  | sub => exact opSub_true h
  | mul => exact opMul_true h
  | quo => exact opQuo_true h
  | rem => exact opRem_true h
  | and => exact opAnd_true h
  | or => exact opOr_true h
  | shl => exact opShl_true h
  | shr => exact opShr_true h
  | eql => exact opEql_true h
  | neq => exact opNeq_true h
  | lss => exact opLss_true h
  | leq => exact opLeq_true h
  | gtr => exact opGtr_true h
  | geq => exact opGeq_true h
  | _ => exact opPure_true h
/-- An operation that reads no memory, whose operands are constants. -/
def runP (O : Ops P) (o : PureOp) (k : V → Bool) : Bool := match o with
  | .mv (.c v) => k v
  | .mvS (.c v) => asS v fun l => k (.s l)
  | .pick (.c c) (.c a) (.c b) => O.oPick c a b k
  | .build zs ps => O.oBuild zs ps k
  | .nilCheck (.c x) => O.oNilCheck x k
  | .fieldAddr off (.c x) => O.oFieldAddr off x k
  | .idxAddrSl es (.c x) (.c i) => O.oIdxAddrSl es x i k
  | .idxAddrArr len es (.c x) (.c i) => O.oIdxAddrArr len es x i k
  | .field agg off n (.c x) => O.oField agg off n x k
  | .idxArr agg len es (.c x) (.c i) => O.oIdxArr agg len es x i k
  | .idxStr (.c x) (.c i) => O.oIdxStr x i k
  | .bin op (.c a) (.c b) => opBin O op a b k
  | .eqB neg (.c a) (.c b) => O.oEqB neg a b k
  | .un .not (.c a) => O.oNot a k
  | .un .neg (.c a) => O.oNeg a k
  | .conv kd (.c a) => O.oConv kd a k
  | .lenS (.c a) => O.oLenS a k
  | .lenSl (.c a) => O.oLenSl a k
  | .lenC n => k (.i .i64 (Int.ofNat n))
  | .mkIface t (.c v) => k (.ifc t v)
  | .extract i (.c x) => O.oExtract i x k
  | .slStr (.c x) lo hi => match cOpt lo, cOpt hi with
    | some lo, some hi => O.oSlStr x lo hi k
    | _, _ => false
  | .slSl es (.c x) lo hi none => match cOpt lo, cOpt hi with
    | some lo, some hi => O.oSlSl es x lo hi k
    | _, _ => false
  | .mkFunc f as bs => match cVals as, cVals bs with
    | some l, some m => k (.f (.func f) l m)
    | _, _ => false
  | o => O.oPure o k
theorem runP_true {o : PureOp} (h : runP (theOps P) o k = true) : ∃ v, apure o .leaf = some v ∧ k v = true := by
  unfold runP at h
  split at h
  · exact ⟨_, rfl, h⟩
  · replace h := asS_true h; obtain ⟨l, rfl, h⟩ := h
    exact ⟨_, rfl, h⟩
  · exact opPick_true h
  · exact opBuild_true h
  · exact opNilCheck_true h
  · exact opFieldAddr_true h
  · exact opIdxAddrSl_true h
  · exact opIdxAddrArr_true h
  · exact opField_true h
  · exact opIdxArr_true h
  · exact opIdxStr_true h
  · exact opBin_true h
  · exact opEqB_true h
  · exact opNot_true h
  · exact opNeg_true h
  · exact opConv_true h
  · exact opLenS_true h
  · exact opLenSl_true h
  · exact ⟨_, rfl, h⟩
  · exact ⟨_, rfl, h⟩
  · exact opExtract_true h
  · split at h
    · next h1 h2 => rw [cOpt_true h1, cOpt_true h2]; exact opSlStr_true h
    · cases h
  · split at h
    · next h1 h2 => rw [cOpt_true h1, cOpt_true h2]; exact opSlSl_true h
    · cases h
  · split at h
    · next h1 h2 => exact ⟨_, by simp only [apure, cVals_true h1, cVals_true h2], h⟩
    · cases h
  · exact opPure_true h
end
section
variable {P : Program} {H : AH} {k : V → Bool}
/-- A read. -/
def runR (O : Ops P) (o : ReadOp) (H : AH) (k : V → Bool) : Bool := match o with
  | .ld1 (.c a) => O.oLd1 a H k
  | .ldN n (.c a) => O.oLdN n a H k
  | .lookup ks zero ok (.c m) (.c q) => O.oLookup ks zero ok m q H k
  | o => O.oRead o H k
theorem runR_true {o : ReadOp} (h : runR (theOps P) o H k = true) : ∃ v, aread o .leaf H = some v ∧ k v = true := by
  unfold runR at h
  split at h
  · exact opLd1_true h
  · exact opLdN_true h
  · exact opLookup_true h
  · exact opRead_true h
end
section
variable {P : Program} {k : AO → V → Bool}
def runO (O : Ops P) (o : AllocOp) (id : Nat) (k : AO → V → Bool) : Bool := match o with
  | .newz zs => k (.cells .rw zs) (.p (some (id, nat_lit 0)))
  | .box (.c x) => O.oBox x id k
  | .bslice es len zs ps => O.oBslice es len zs ps id k
  | .mkmap => k (.map []) (.m (some id))
  | .s2b (.c x) => O.oS2b x id k
  | o => O.oObj o id k
theorem runO_true {o : AllocOp} {id : Nat} (h : runO (theOps P) o id k = true) : ∃ ob mk, aalloc o .leaf = some (ob, mk) ∧ k ob (mk id) = true := by
  unfold runO at h
  split at h
  · exact ⟨_, _, rfl, h⟩
  · exact opBox_true h
  · exact opBslice_true h
  · exact ⟨_, _, rfl, h⟩
  · exact opS2b_true h
  · exact opObj_true h
end
section
variable {P : Program} {H : AH} {k : V → AH → Bool}
def runA (O : Ops P) (o : AllocOp) (H : AH) (k : V → AH → Bool) : Bool := O.oNext H fun id => runO O o id fun ob v => O.oLay H ob fun H => k v H
theorem runA_true {o : AllocOp} (h : runA (theOps P) o H k = true) : ∃ ob mk, aalloc o .leaf = some (ob, mk) ∧ k (mk H.next) (H.alloc ob) = true := by
  unfold runA at h
  replace h : runO (theOps P) o H.next (fun ob v => opLay H ob fun H => k v H) = true := h
  replace h := runO_true h; obtain ⟨ob, mk, h1, h⟩ := h
  exact ⟨ob, mk, h1, opLay_true h⟩

/-- An act. -/
def runC (O : Ops P) (o : ActOp) (H : AH) (k : V → AH → Bool) : Bool := match o with
  | .st n (.c a) (.c x) => O.oSt n a x H k
  | .append es bytes (.c x) (.c y) => O.oAppend es bytes x y H k
  | .mapUpd ks (.c m) (.c q) (.c v) => O.oMapUpd ks m q v H k
  | o => O.oAct o H k
theorem runC_true {o : ActOp} (h : runC (theOps P) o H k = true) : ∃ v H', aact o .leaf H = some (v, H') ∧ k v H' = true := by
  unfold runC at h
  split at h
  · exact opSt_true h
  · exact opAppend_true h
  · exact opMapUpd_true h
  · exact opAct_true h
end
structure SOper (P : Program) where
  dst : Option Nat
  op : SOp P
  guard : Option (Nat × Bool)
structure SStage (P : Program) where
  chk : List AOper
  items : List DItem
  act : Option (SOper P)
inductive SC (P : Program) where
  | skip
  | reg (l : List (SOper P))
  | draw (m : Nat) (l : List (SStage P))
  | seq (x y : SC P)
  | join (live keep : List Nat) (x y : SC P)
  | cond (c : X) (x y : SC P)
  | block (id : Nat) (x : SC P)
  | loop (live keep : List Nat) (x : SC P)
  | rangeF (g : X) (f k : Nat) (live : List Nat) (l : List (Alt P))
  | exit (id : Nat)
  | ret

section
variable {P : Program}
def SOp.er : SOp P → AOp
  | .pure o => .pure o
  | .read o => .read o
  | .alloc o => .alloc o
  | .act o => .act o
  | .call f xs _ => .call f xs
  | .callV g xs _ _ => .callV g xs
  | .callG f xs _ _ _ => .call f xs
  | .callD f xs _ _ _ _ => .call f xs
  | .pan x => .pan x
def SOper.er (o : SOper P) : AOper := ⟨o.dst, o.op.er, o.guard⟩
def erL : List (SOper P) → List AOper
  | [] => []
  | o :: l => o.er :: erL l
def erO : Option (SOper P) → Option AOper
  | none => none
  | some o => some o.er
def erS : List (SStage P) → List DStage
  | [] => []
  | s :: l => ⟨s.chk, s.items, erO s.act⟩ :: erS l
def SC.er : SC P → ACode
  | .skip => .skip
  | .reg l => .reg (erL l)
  | .draw m l => .draw m (erS l)
  | .seq x y => .seq x.er y.er
  | .join _ _ x y => .seq x.er y.er
  | .cond c x y => .cond c x.er y.er
  | .block id x => .block id x.er
  | .loop _ _ x => .loop x.er
  | .rangeF g f k _ _ => .rangeF g f k
  | .exit id => .exit id
  | .ret => .ret

/-- One operation. -/
def sop (O : Ops P) (o : SOp P) (e : SE) (H : AH) (k : KT) : Bool := match o with
  | .pure p => match subPure e p with
    | some p => runP O p fun v => k v H
    | none => false
  | .read p => match subRead e p with
    | some p => runR O p H fun v => k v H
    | none => false
  | .alloc p => match subAlloc e p with
    | some p => runA O p H k
    | none => false
  | .act p => match subAct e p with
    | some p => runC O p H k
    | none => false
  | .call _ xs c => match valsX e xs with
    | some vs => c.run vs H k
    | none => false
  | .callV g xs l ys => match valX e g, valsX e xs with
    | some g, some vs => O.oCallY l ys g vs H k
    | _, _ => false
  | .callG _ xs vs0 v _ => match valsX e xs with
    | some vs => O.oAssert vs vs0 (k v H)
    | none => false
  | .callD _ xs vs0 lo cnt _ => match valsX e xs with
    | some vs => O.oAssert vs vs0 (O.oAll lo cnt fun r => k (.i .i64 (Int.ofNat r)) H)
    | none => false
  | .pan _ => false
theorem sop_true {W0 : World} {Q : AExit → Env → AH → Prop} {o : SOp P} {e : SE} {env : Env} {H : AH} {k : KT} {K : V → AH → Prop} (hs : Sub e env) (hk : ∀ v H, k v H = true → K v H) (h : sop (theOps P) o e H k = true) : aop1 P W0 Q o.er env H K := by
  cases o with
  | pure p =>
    simp only [sop] at h
    split at h
    · next p' hp =>
      replace h := runP_true h; obtain ⟨v, h1, h2⟩ := h
      simp only [SOp.er, aop1, subPure_true hs hp, h1]
      exact hk _ _ h2
    · cases h
  | read p =>
    simp only [sop] at h
    split at h
    · next p' hp =>
      replace h := runR_true h; obtain ⟨v, h1, h2⟩ := h
      simp only [SOp.er, aop1, subRead_true hs hp, h1]
      exact hk _ _ h2
    · cases h
  | alloc p =>
    simp only [sop] at h
    split at h
    · next p' hp =>
      replace h := runA_true h; obtain ⟨ob, mk, h1, h2⟩ := h
      simp only [SOp.er, aop1, subAlloc_true hs hp, h1]
      exact hk _ _ h2
    · cases h
  | act p =>
    simp only [sop] at h
    split at h
    · next p' hp =>
      replace h := runC_true h; obtain ⟨v, H', h1, h2⟩ := h
      simp only [SOp.er, aop1, subAct_true hs hp, h1]
      exact hk _ _ h2
    · cases h
  | call f xs c =>
    simp only [sop] at h
    split at h
    · next vs hv =>
      simp only [SOp.er, aop1, valsX_true hs hv]
      refine (c.ok W0 vs H k h).mono fun e H' hh => ?_
      obtain ⟨v, rfl, h3⟩ := hh
      exact hk _ _ h3
    · cases h
  | callV g xs l ys =>
    simp only [sop] at h
    split at h
    · next g' vs hg hv =>
      rw [the_oCallY] at h
      rcases opCallY_true (W0 := W0) h with ⟨f, as, bs, rfl, h3⟩ | ⟨n, rfl, h3⟩
      · simp only [SOp.er, aop1, valX_true hs hg, valsX_true hs hv]
        refine h3.mono fun e H' hh => ?_
        obtain ⟨v, rfl, h4⟩ := hh
        exact hk _ _ h4
      · simp only [SOp.er, aop1, valX_true hs hg, valsX_true hs hv]
        refine h3.mono fun e H' hh => ?_
        obtain ⟨v, rfl, h4⟩ := hh
        exact hk _ _ h4
    · cases h
  | callG f xs vs0 v ok =>
    simp only [sop] at h
    split at h
    · next vs hv =>
      rw [the_oAssert] at h
      replace h := opAssert_true h; obtain ⟨rfl, h⟩ := h
      simp only [SOp.er, aop1, valsX_true hs hv]
      refine (ok W0 H).mono fun e H' hh => ?_
      obtain ⟨rfl, rfl⟩ := hh
      exact hk _ _ h
    · cases h
  | callD f xs vs0 lo cnt ok =>
    simp only [sop] at h
    split at h
    · next vs hv =>
      rw [the_oAssert, the_oAll] at h
      replace h := opAssert_true h; obtain ⟨rfl, h⟩ := h
      obtain ⟨r, h1, h2, ok⟩ := ok
      simp only [SOp.er, aop1, valsX_true hs hv]
      refine (ok W0 H).mono fun e H' hh => ?_
      obtain ⟨rfl, rfl⟩ := hh
      exact hk _ _ (opAll_true h r h1 h2)
    · cases h
  | pan x => cases h

def sop2 (O : Ops P) (o : SOper P) (e : SE) (H : AH) (k : KT) : Bool := match o.guard with
  | none => sop O o.op e H k
  | some (d, want) => match lk e d with
    | some g => O.oGuard g want (fun k => sop O o.op e H k) H k
    | none => false
def sops (O : Ops P) (l : List (SOper P)) (e : SE) (H : AH) (kn : SE → AH → Bool) : Bool := match l with
  | [] => kn e H
  | o :: r => sop2 O o e H fun v H => sops O r (putS e o.dst v) H kn
theorem sops_true {W0 : World} {Q : AExit → Env → AH → Prop} {kn : SE → AH → Bool} (hn : ∀ e H env, Sub e env → kn e H = true → Q .normal env H) : ∀ {l : List (SOper P)} {e : SE} {env : Env} {H : AH}, Sub e env → sops (theOps P) l e H kn = true → aops P W0 Q (erL l) env H
  | [], e, env, H, hs, h => hn _ _ _ hs h
  | o :: r, e, env, H, hs, h => by
    simp only [sops, sop2] at h
    simp only [erL, aops, SOper.er]
    cases hg : o.guard with
    | none =>
      rw [hg] at h
      simp only [guardOk]
      exact sop_true hs (fun v H h => sops_true hn hs.put h) h
    | some dw =>
      obtain ⟨d, want⟩ := dw
      rw [hg] at h
      simp only at h
      cases hl : lk e d with
      | none => rw [hl] at h; cases h
      | some g =>
        rw [hl] at h
        simp only [the_oGuard] at h
        replace h := opGuard_true hs hl h; rcases h with ⟨h1, h⟩ | ⟨h1, h⟩
        · rw [h1]
          exact sop_true hs (fun v H h => sops_true hn hs.put h) h
        · rw [h1]
          exact sops_true hn hs.put h

def schk1 (O : Ops P) (o : AOper) (e : SE) (H : AH) (t : Bool) : Bool := match o.op with
  | .read p => match subRead e p with
    | some p => match o.dst with
      | some d => match lk e d with
        | some u => runR O p H fun v => O.oSame u v t
        | none => false
      | none => runR O p H fun _ => t
    | none => false
  | _ => t
def schk (O : Ops P) (e : SE) (H : AH) (t : Bool) : List AOper → Bool
  | [] => t
  | o :: r => match o.guard with
    | none => schk1 O o e H (schk O e H t r)
    | some (d, want) => match lk e d with
      | some g => O.oChk g want (fun t => schk1 O o e H t) H (schk O e H t r)
      | none => false
theorem schk1_true {e : SE} {env : Env} {H : AH} {t : Bool} {o : AOper} (hs : Sub e env) (h : schk1 (theOps P) o e H t = true) : (match o.op with
      | .read p => ∃ v, aread p env H = some v ∧ hasE env o.dst v
      | _ => True) ∧ t = true := by
  unfold schk1 at h
  cases hop : o.op with
  | read p =>
    rw [hop] at h
    simp only at h ⊢
    cases hp' : subRead e p with
    | none => rw [hp'] at h; cases h
    | some p' =>
      rw [hp'] at h
      simp only at h
      rw [subRead_true hs hp']
      cases hd : o.dst with
      | some d =>
        rw [hd] at h
        simp only at h
        cases hu : lk e d with
        | none => rw [hu] at h; cases h
        | some u =>
          rw [hu] at h
          replace h := runR_true h; obtain ⟨v, h1, h⟩ := h
          replace h := opSame_true h; obtain ⟨h2, h⟩ := h
          refine ⟨⟨v, h1, ?_⟩, h⟩
          simp only [hasE]
          rw [← h2]; exact hs _ _ hu
      | none =>
        rw [hd] at h
        replace h := runR_true h; obtain ⟨v, h1, h⟩ := h
        exact ⟨⟨v, h1, trivial⟩, h⟩
  | _ => rw [hop] at h; exact ⟨trivial, h⟩
theorem schk_true {e : SE} {env : Env} {H : AH} {t : Bool} (hs : Sub e env) : ∀ {l : List AOper}, schk (theOps P) e H t l = true → dchk env H l ∧ t = true
  | [], h => ⟨trivial, h⟩
  | o :: r, h => by
    simp only [schk] at h
    simp only [dchk]
    cases hg : o.guard with
    | none =>
      rw [hg] at h
      replace h := schk1_true hs h; obtain ⟨h1, h⟩ := h
      replace h := schk_true hs h; obtain ⟨h2, h⟩ := h
      exact ⟨⟨h1, h2⟩, h⟩
    | some dw =>
      obtain ⟨d, want⟩ := dw
      rw [hg] at h
      simp only at h
      cases hl : lk e d with
      | none => rw [hl] at h; cases h
      | some g =>
        rw [hl] at h
        simp only [the_oChk, opChk] at h
        replace h := opGuard_true hs hl h; rcases h with ⟨h1, h⟩ | ⟨h1, h⟩
        · rw [h1]
          replace h := schk1_true hs h; obtain ⟨h2, h⟩ := h
          replace h := schk_true hs h; obtain ⟨h3, h⟩ := h
          exact ⟨⟨h2, h3⟩, h⟩
        · rw [h1]
          replace h := schk_true hs h; obtain ⟨h3, h⟩ := h
          exact ⟨⟨trivial, h3⟩, h⟩
def sitem (O : Ops P) (base i : Nat) (o : AOp) (e : SE) (H : AH) (kv : V → Bool) (ko : AO → V → Bool) : Bool := match o with
  | .pure p => match subPure e p with
    | some p => runP O p kv
    | none => false
  | .read p => match subRead e p with
    | some p => runR O p H kv
    | none => false
  | .alloc p => match subAlloc e p with
    | some p => O.oPlus base i fun id => runO O p id ko
    | none => false
  | _ => false
def noAl : AOp → Bool
  | .alloc _ => false
  | _ => true
def sitems (O : Ops P) (base : Nat) (H : AH) : List DItem → SE → Pend → (SE → Pend → Bool) → Bool
  | [], e, pend, K => K e pend
  | ⟨i, o, h⟩ :: r, e, pend, K => match o.guard with
    | none => sitem O base i o.op e H (fun v => sitems O base H r (putS e o.dst v) pend K) (fun ob v => sitems O base H r (putS e o.dst v) ((i, h, ob) :: pend) K)
    | some (d, want) => match lk e d, noAl o.op with
      | some g, true => O.oGuard g want (fun k => sitem O base i o.op e H (fun v => k v H) (fun _ _ => false)) H (fun v _ => sitems O base H r (putS e o.dst v) pend K)
      | _, _ => false
theorem sitems_true {env0 : Env} {base : Nat} {H : AH} {K : Env → Pend → Prop} {k : SE → Pend → Bool} (hk : ∀ e env pend, Sub e env → k e pend = true → K env pend) : ∀ {l : List DItem} {e : SE} {env : Env} {pend : Pend}, Sub e env → sitems (theOps P) base H l e pend k = true → ditems base H l env pend K
  | [], e, env, pend, hs, h => hk _ _ _ hs h
  | ⟨i, o, hh⟩ :: r, e, env, pend, hs, h => by
    simp only [sitems] at h
    simp only [ditems]
    cases hg : o.guard with
    | none =>
      rw [hg] at h
      simp only [guardOk]
      cases hop : o.op with
      | pure p =>
        rw [hop] at h
        simp only [sitem] at h
        split at h
        · next p' hp =>
          replace h := runP_true h; obtain ⟨v, h1, h⟩ := h
          simp only [subPure_true hs hp, h1]
          exact sitems_true (env0 := env0) hk hs.put h
        · cases h
      | read p =>
        rw [hop] at h
        simp only [sitem] at h
        split at h
        · next p' hp =>
          replace h := runR_true h; obtain ⟨v, h1, h⟩ := h
          simp only [subRead_true hs hp, h1]
          exact sitems_true (env0 := env0) hk hs.put h
        · cases h
      | alloc p =>
        rw [hop] at h
        simp only [sitem] at h
        split at h
        · next p' hp =>
          rw [the_oPlus] at h
          unfold opPlus at h
          rw [fN_eq] at h
          replace h := runO_true h; obtain ⟨ob, mk, h1, h⟩ := h
          simp only [subAlloc_true hs hp, h1]
          exact sitems_true (env0 := env0) hk hs.put h
        · cases h
      | _ => rw [hop] at h; cases h
    | some dw =>
      obtain ⟨d, want⟩ := dw
      rw [hg] at h
      simp only at h
      cases hl : lk e d with
      | none => rw [hl] at h; cases h
      | some g =>
        cases hn : noAl o.op with
        | false => rw [hl, hn] at h; cases h
        | true =>
          rw [hl, hn] at h
          simp only [the_oGuard] at h
          replace h := opGuard_true hs hl h; rcases h with ⟨h1, h⟩ | ⟨h1, h⟩
          · rw [h1]
            cases hop : o.op with
            | pure p =>
              rw [hop] at h
              simp only [sitem] at h
              split at h
              · next p' hp =>
                replace h := runP_true h; obtain ⟨v, h1, h⟩ := h
                simp only [subPure_true hs hp, h1]
                exact sitems_true (env0 := env0) hk hs.put h
              · cases h
            | read p =>
              rw [hop] at h
              simp only [sitem] at h
              split at h
              · next p' hp =>
                replace h := runR_true h; obtain ⟨v, h1, h⟩ := h
                simp only [subRead_true hs hp, h1]
                exact sitems_true (env0 := env0) hk hs.put h
              · cases h
            | alloc p => rw [hop] at hn; cases hn
            | _ => rw [hop] at h; cases h
          · rw [h1]
            exact sitems_true (env0 := env0) hk hs.put h
def sflush (O : Ops P) (base k : Nat) : Pend → AH → (AH → Bool) → Bool
  | [], H, K => K H
  | (i, h, o) :: r, H, K => match Nat.beq h k with
    | true => sflush O base k r H fun H => O.oSetA H base i o K
    | false => sflush O base k r H K
theorem sflush_true {base k : Nat} : ∀ {l : Pend} {H : AH} {K : AH → Bool}, sflush (theOps P) base k l H K = true → K (flushAt base k l H) = true
  | [], _, _, h => h
  | (i, h, o) :: r, H, K, hh => by
    simp only [sflush] at hh
    simp only [flushAt]
    split at hh
    · next hb => rw [if_pos (Nat.eq_of_beq_eq_true hb)]; exact opSetA_true (sflush_true (l := r) hh)
    · next hb => rw [if_neg (Nat.ne_of_beq_eq_false hb)]; exact sflush_true (l := r) hh
def srest (k : Nat) : Pend → Pend
  | [] => []
  | (i, h, o) :: r => match Nat.beq h k with
    | true => srest k r
    | false => (i, h, o) :: srest k r
theorem srest_eq {k : Nat} : ∀ {l : Pend}, srest k l = restAt k l
  | [] => rfl
  | (i, h, o) :: r => by
    simp only [srest, restAt]
    split
    · next hb => rw [if_pos (Nat.eq_of_beq_eq_true hb)]; exact srest_eq
    · next hb => rw [if_neg (Nat.ne_of_beq_eq_false hb), srest_eq]
def sstages (O : Ops P) (base : Nat) (kn : SE → AH → Bool) : List (SStage P) → Nat → SE → AH → Pend → Bool
  | [], _, _, _, _ => false
  | s :: r, k, e, H, pend => schk O e H (sitems O base H s.items e pend fun e pend => sflush O base k pend H fun H => match s.act with
    | none => kn e H
    | some o => sop2 O o e H fun v H => sstages O base kn r (k + 1) (putS e o.dst v) H (srest k pend)) s.chk
theorem sstages_true {W0 : World} {Q : AExit → Env → AH → Prop} {base : Nat} {kn : SE → AH → Bool} (hn : ∀ e H env, Sub e env → kn e H = true → Q .normal env H) : ∀ {l : List (SStage P)} {k : Nat} {e : SE} {env : Env} {H : AH} {pend : Pend}, Sub e env → sstages (theOps P) base kn l k e H pend = true → dstages P W0 Q base (erS l) k env H pend
  | [], _, _, _, _, _, _, h => by cases h
  | s :: r, k, e, env, H, pend, hs, h => by
    simp only [sstages] at h
    simp only [erS, dstages]
    replace h := schk_true hs h; obtain ⟨h1, h⟩ := h
    refine ⟨h1, sitems_true (env0 := env) (fun e env pend hs h => ?_) hs h⟩
    have h := sflush_true h
    cases ha : s.act with
    | none => rw [ha] at h; exact hn _ _ _ hs h
    | some o =>
      rw [ha] at h
      simp only [sop2, srest_eq] at h
      simp only [erO, SOper.er]
      cases hg : o.guard with
      | none =>
        rw [hg] at h
        simp only [guardOk]
        exact sop_true hs (fun v H h => sstages_true hn hs.put h) h
      | some dw =>
        obtain ⟨d, want⟩ := dw
        rw [hg] at h
        simp only at h
        cases hl : lk e d with
        | none => rw [hl] at h; cases h
        | some g =>
          rw [hl] at h
          simp only [the_oGuard] at h
          replace h := opGuard_true hs hl h; rcases h with ⟨h1, h⟩ | ⟨h1, h⟩
          · rw [h1]
            exact sop_true hs (fun v H h => sstages_true hn hs.put h) h
          · rw [h1]
            exact sstages_true hn hs.put h
/-- Registers, worked out. -/
def forceS (e : SE) (k : SE → Bool) : Bool := match e with
  | [] => k []
  | (r, v) :: e => forceS e fun e' => k ((r, v) :: e')
theorem forceS_eq : ∀ (e : SE) (k : SE → Bool), forceS e k = k e
  | [], _ => rfl
  | (r, v) :: e, k => forceS_eq e fun e' => k ((r, v) :: e')
def sden (O : Ops P) : SC P → SE → AH → (SE → AH → Bool) → (Nat → SE → AH → Bool) → (SE → AH → Bool) → Bool
  | .skip, e, H, kn, _, _ => kn e H
  | .reg l, e, H, kn, _, _ => sops O l e H kn
  | .draw m l, e, H, kn, _, _ => O.oBump H m fun base H => sstages O base kn l 0 e H []
  | .seq x y, e, H, kn, ke, kr => sden O x e H (fun e H => sden O y e H kn ke kr) ke kr
  | .join live keep x y, e, H, kn, ke, kr => forceS (offS (wr x.er) (keepS keep e)) fun e1 => O.oJoin live.length (mkJ live (fun e H => sden O y e H kn ke kr) e1) fun J => sden O x e H (fun e H => callJ live e J H) ke kr
  | .cond c x y, e, H, kn, ke, kr => match valX e c with
    | some v => O.oCond v (sden O y e H kn ke kr) (sden O x e H kn ke kr)
    | none => false
  | .block id x, e, H, kn, ke, kr => sden O x e H kn (fun i e H => match Nat.beq i id with
    | true => kn e H
    | false => ke i e H) kr
  | .loop live keep x, e, H, _, ke, kr => forceS (offS (wr x.er) (keepS keep e)) fun e1 => callJ live e (O.oLoop live.length fun ih => mkJ live (fun e H => sden O x e H (fun e H => callJ live e ih H) ke kr) e1) H
  | .rangeF g f i live l, e, H, kn, ke, kr => match valX e g with
    | some g => O.oNext H fun n => O.oLay H (.loop .ready none f i (toEnv live e)) fun H => O.oCallV l g [.f (.yield n) [] []] H fun _ H => O.oRan n H (fun H => kn e H) (fun j H => ke j e H) (fun H => kr e H)
    | none => false
  | .exit id, e, H, _, ke, _ => ke id e H
  | .ret, e, H, _, _, kr => kr e H

theorem sden_true {W0 : World} : ∀ {c : SC P} {Q : AExit → Env → AH → Prop} {e : SE} {env : Env} {H : AH} {kn : SE → AH → Bool} {ke : Nat → SE → AH → Bool} {kr : SE → AH → Bool}, Sub e env →
    (∀ e H env, Sub e env → kn e H = true → Q .normal env H) → (∀ i e H env, Sub e env → ke i e H = true → Q (.exit i) env H) → (∀ e H env, Sub e env → kr e H = true → Q .ret env H) →
    sden (theOps P) c e H kn ke kr = true → awp P W0 c.er Q env H := by
  intro c
  induction c with
  | skip => intro Q e env H kn ke kr hs hn he hr h; exact hn _ _ _ hs h
  | reg l => intro Q e env H kn ke kr hs hn he hr h; exact sops_true hn hs h
  | draw m l =>
    intro Q e env H kn ke kr hs hn he hr h
    simp only [sden] at h
    rw [the_oBump, opBump_eq] at h
    exact sstages_true hn hs h
  | seq x y ihx ihy =>
    intro Q e env H kn ke kr hs hn he hr h
    exact ihx (Q := thenQ (fun env H => awp P W0 y.er Q env H) Q) hs (fun e H env hs h => ihy hs hn he hr h) he hr h
  | join live keep x y ihx ihy =>
    intro Q e env H kn ke kr hs hn he hr h
    simp only [sden, forceS_eq] at h
    have h1 := ihx (Q := thenQ (fun env' H' => ∃ e', Sub e' env' ∧ callJ live e' (mkJ live (fun e H => sden (theOps P) y e H kn ke kr) (offS (wr x.er) (keepS keep e))) H' = true) Q) hs (fun e H env hs h => ⟨e, hs, h⟩) he hr h
    refine awp_mono (c := x.er) (fun ae env' H' hq => ?_) (awp_keep (c := x.er) (W := wr x.er) (e0 := env) (fun t ht => ht) (fun t _ => rfl) h1)
    cases ae with
    | normal =>
      obtain ⟨⟨e', hs', h'⟩, ho⟩ := hq
      obtain ⟨e2, hs2, h2⟩ := callJ_mkJ hs' (hs.keep.off ho) h'
      exact ihy hs2 hn he hr h2
    | exit i => exact hq.1
    | ret => exact hq.1
    | pan v => exact hq
  | cond c x y ihx ihy =>
    intro Q e env H kn ke kr hs hn he hr h
    simp only [sden] at h
    split at h
    · next v hv =>
      replace h := asB_true h; obtain ⟨b, rfl, h⟩ := h
      simp only [SC.er, awp, valX_true hs hv]
      replace h := iteB_true h; rcases h with ⟨rfl, h⟩ | ⟨rfl, h⟩
      · exact ihx hs hn he hr h
      · exact ihy hs hn he hr h
    · cases h
  | block id x ih =>
    intro Q e env H kn ke kr hs hn he hr h
    refine ih (Q := inBlk id Q) hs hn (fun i e H env hs h => ?_) hr h
    show inBlk id Q (.exit i) env H
    simp only [inBlk]
    split at h
    · next hb => rw [if_pos (Nat.eq_of_beq_eq_true hb)]; exact hn _ _ _ hs h
    · next hb => rw [if_neg (Nat.ne_of_beq_eq_false hb)]; exact he _ _ _ _ hs h
  | loop live keep x ih =>
    intro Q e env H kn ke kr hs hn he hr h
    simp only [sden, forceS_eq] at h
    simp only [SC.er, awp]
    rw [the_oLoop] at h
    unfold opLoop at h
    refine ⟨fun n env1 H => ∃ e1, Sub e1 env1 ∧ Off (wr x.er) env env1 ∧ callJ live e1 (loopN live.length (fun ih => mkJ live (fun e H => sden (theOps P) x e H (fun e H => callJ live e ih H) ke kr) (offS (wr x.er) (keepS keep e))) n) H = true, _, ⟨e, hs, fun t _ => rfl, h⟩, ?_⟩
    rintro n env1 H1 ⟨e1, hs1, ho1, h1⟩
    cases n with
    | zero => rw [show loopN live.length (fun ih => mkJ live (fun e H => sden (theOps P) x e H (fun e H => callJ live e ih H) ke kr) (offS (wr x.er) (keepS keep e))) 0 = badT live.length from rfl, callJ_bad] at h1; cases h1
    | succ n =>
      obtain ⟨e', hs', h'⟩ := callJ_mkJ hs1 (hs.keep.off ho1) h1
      have h2 := ih (Q := thenQ (fun env2 H2 => ∃ e2, Sub e2 env2 ∧ callJ live e2 (loopN live.length (fun ih => mkJ live (fun e H => sden (theOps P) x e H (fun e H => callJ live e ih H) ke kr) (offS (wr x.er) (keepS keep e))) n) H2 = true) Q) hs' (fun e H env hs h => ⟨e, hs, h⟩) he hr h'
      refine awp_mono (c := x.er) (fun ae env2 H2 hq => ?_) (awp_keep (c := x.er) (W := wr x.er) (e0 := env) (fun t ht => ht) ho1 h2)
      cases ae with
      | normal =>
        obtain ⟨⟨e2, hs2, h3⟩, ho2⟩ := hq
        exact ⟨n, by omega, e2, hs2, ho2, h3⟩
      | exit i => exact hq.1
      | ret => exact hq.1
      | pan v => exact hq
  | rangeF g f i live l =>
    intro Q e env H kn ke kr hs hn he hr h
    simp only [sden] at h
    split at h
    · next g' hg =>
      rw [the_oNext, opNext_eq, the_oLay] at h
      replace h := opLay_true h
      obtain ⟨f', as, bs, rfl, h3⟩ := opCallV_true (W0 := W0) h
      simp only [SC.er, awp, valX_true hs hg]
      refine ⟨toEnv live e, toEnv_sub hs, h3.mono fun e' H' hh => ?_⟩
      obtain ⟨v, rfl, h4⟩ := hh
      exact opRan_true h4 (fun H h => hn _ _ _ hs h) (fun i H h => he _ _ _ _ hs h) (fun H h => hr _ _ _ hs h)
    · cases h
  | exit id => intro Q e env H kn ke kr hs hn he hr h; exact he _ _ _ _ hs h
  | ret => intro Q e env H kn ke kr hs hn he hr h; exact hr _ _ _ hs h

/-- What a function tells. -/
def resS (O : Ops P) : List ARes → SE → AH → (List V → Bool) → Bool
  | [], _, _, k => k []
  | .t n :: l, e, H, k => match lk e n with
    | some v => resS O l e H fun vs => k (v :: vs)
    | none => false
  | .c ag n t :: l, e, H, k => match lk e t with
    | some a => match ag with
      | true => runR O (.ldN n (.c a)) H fun v => resS O l e H fun vs => k (v :: vs)
      | false => runR O (.ld1 (.c a)) H fun v => resS O l e H fun vs => k (v :: vs)
    | none => false
theorem resS_true {env : Env} {e : SE} {H : AH} (hs : Sub e env) : ∀ {l : List ARes} {k : List V → Bool}, resS (theOps P) l e H k = true → ∃ vs, readAll env H l = some vs ∧ k vs = true
  | [], k, h => ⟨[], rfl, h⟩
  | .t n :: l, k, h => by
    simp only [resS] at h
    split at h
    · next v hv =>
      replace h := resS_true hs h; obtain ⟨vs, h1, h2⟩ := h
      exact ⟨v :: vs, by simp only [readAll, readRes, hs _ _ hv, h1], h2⟩
    · cases h
  | .c ag n t :: l, k, h => by
    simp only [resS] at h
    split at h
    · next a ha =>
      have he : X.ev env (.t t) = X.ev .leaf (.c a) := hs _ _ ha
      split at h
      · replace h := runR_true h; obtain ⟨v, h1, h⟩ := h
        replace h := resS_true hs h; obtain ⟨vs, h2, h3⟩ := h
        refine ⟨v :: vs, ?_, h3⟩
        have : aread (.ldN n (.t t)) env H = some v := by rw [← h1]; simp only [aread, he]
        simp only [readAll, readRes, if_true, this, h2]
      · replace h := runR_true h; obtain ⟨v, h1, h⟩ := h
        replace h := resS_true hs h; obtain ⟨vs, h2, h3⟩ := h
        refine ⟨v :: vs, ?_, h3⟩
        have : aread (.ld1 (.t t)) env H = some v := by rw [← h1]; simp only [aread, he]
        simp only [readAll, readRes, Bool.false_eq_true, if_false, this, h2]
    · cases h
def initS : Nat → List V → SE
  | _, [] => []
  | i, v :: l => (i, v) :: initS (i + 1) l
theorem initS_sub : ∀ {vs : List V} {i : Nat} {e : Env}, Sub (initS i vs) (initEnv i vs e)
  | [], i, e => Sub.nil
  | v :: vs, i, e => by
    intro n u hn
    simp only [initS, lk] at hn
    split at hn
    · next hb =>
      simp only [Option.some.injEq] at hn; subst hn
      have hb := Nat.eq_of_beq_eq_true hb
      subst hb
      rw [initEnv_get, if_pos (by simp)]
      simp
    · next hb =>
      simp only [initEnv]
      exact initS_sub n u hn
def sfn (O : Ops P) (s : SC P) (rs : List ARes) (vs : List V) (H : AH) (k : KT) : Bool :=
  sden O s (initS 0 vs) H (fun e H => resS O rs e H fun l => k (packRes l) H) (fun _ _ _ => false) (fun e H => resS O rs e H fun l => k (packRes l) H)
theorem sfn_true {W0 : World} {f : FuncId} {N : Nat} {s : SC P} {rs : List ARes} {vs : List V} {H : AH} {k : KT} (hk : compFn P f = some ⟨N, s.er, rs⟩) (hl : vs.length ≤ N) (h : sfn (theOps P) s rs vs H k = true) : ACalls P W0 f vs H fun e H' => ∃ v, e = .ret v ∧ k v H' = true := by
  refine acalls_of hk hl (sden_true initS_sub (fun e H env hs h => ?_) (fun _ _ _ _ _ h => by cases h) (fun e H env hs h => ?_) h)
  · replace h := resS_true hs h; obtain ⟨l, h1, h2⟩ := h
    simp only [bodyQ, h1]
    exact ⟨_, rfl, h2⟩
  · replace h := resS_true hs h; obtain ⟨l, h1, h2⟩ := h
    simp only [bodyQ, h1]
    exact ⟨_, rfl, h2⟩
/-- A function of so many values. -/
def FunT : Nat → Type
  | 0 => AH → KT → Bool
  | n + 1 => V → FunT n
def appF : (n : Nat) → FunT n → List V → AH → KT → Bool
  | 0, g, [], H, k => g H k
  | n + 1, g, v :: vs, H, k => appF n (g v) vs H k
  | _, _, _, _, _ => false
def curF : (n : Nat) → (List V → AH → KT → Bool) → FunT n
  | 0, F => fun H k => F [] H k
  | n + 1, F => fun v => curF n fun vs => F (v :: vs)
theorem appF_true : ∀ {n : Nat} {F : List V → AH → KT → Bool} {vs : List V} {H : AH} {k : KT}, appF n (curF n F) vs H k = true → vs.length = n ∧ F vs H k = true
  | 0, F, [], H, k, h => ⟨rfl, h⟩
  | 0, F, _ :: _, H, k, h => by cases h
  | n + 1, F, [], H, k, h => by cases h
  | n + 1, F, v :: vs, H, k, h => by
    replace h := appF_true (n := n) h; obtain ⟨h1, h2⟩ := h
    exact ⟨by simp [h1], h2⟩
/-- Registers read out of what a loop keeps. -/
def rdEnv (O : Ops P) (env : Env) : List Nat → SE → (SE → Bool) → Bool
  | [], e, K => K e
  | t :: l, e, K => O.oGetE env t fun v => rdEnv O env l ((t, v) :: e) K
theorem rdEnv_true {env : Env} : ∀ {l : List Nat} {e : SE} {K : SE → Bool}, Sub e env → rdEnv (theOps P) env l e K = true → ∃ e', Sub e' env ∧ K e' = true
  | [], e, K, hs, h => ⟨e, hs, h⟩
  | t :: l, e, K, hs, h => by
    simp only [rdEnv, the_oGetE] at h
    replace h := getT_true h; obtain ⟨v, h1, h2⟩ := h
    exact rdEnv_true (hs.cons h1) h2
def putSE : List Nat → List V → SE → SE
  | t :: ts, v :: vs, e => putSE ts vs ((t, v) :: e)
  | _, _, e => e
theorem putSE_sub : ∀ {ps : List Nat} {vs : List V} {e : SE} {env : Env}, Sub e env → Sub (putSE ps vs e) (putPs ps vs env)
  | [], vs, e, env, h => by cases vs <;> exact h
  | t :: ts, [], e, env, h => h
  | t :: ts, v :: vs, e, env, h => by
    refine putSE_sub (e := (t, v) :: e) (env := env.set t v) fun n u hn => ?_
    simp only [lk] at hn
    rw [Tr.get_set]
    split at hn
    · next hb => rw [if_pos (Nat.eq_of_beq_eq_true hb).symm]; exact hn
    · next hb => rw [if_neg (fun e => Nat.ne_of_beq_eq_false hb e.symm)]; exact h n u hn
/-- One round. -/
def srnd (O : Ops P) (ps : List Nat) (sa sb : SC P) (live : List Nat) (n : Nat) (env : Env) (vs : List V) (H : AH) (kt : KT) : Bool :=
  rdEnv O env live [] fun e => sden O sa (putSE ps vs e) H (fun e H => O.oBusy n H fun H => sden O sb e H (fun _ H => O.oYld n H none fun H => kt (.b true) H) (fun i _ H => O.oYld n H (some (some i)) fun H => kt (.b false) H) (fun _ H => O.oYld n H (some none) fun H => kt (.b false) H)) (fun _ _ _ => false) (fun _ _ => false)
theorem srnd_true {W0 : World} {f k : Nat} {ps : List Nat} {sa sb : SC P} {live : List Nat} {n : Nat} {st : LoopState} {pend : Option (Option Nat)} {env : Env} {vs : List V} {H : AH} {kt : KT} (hc : compLoop P f k = some ⟨ps, sa.er, sb.er⟩) (hl : ps.length = vs.length) (hg : H.get n = some (.loop st pend f k env))
    (h : srnd (theOps P) ps sa sb live n env vs H kt = true) : AYield P W0 n vs H fun e H' => ∃ v, e = .ret v ∧ kt v H' = true := by
  refine ayield_of hg hc hl ?_
  obtain ⟨e, hs, h⟩ := rdEnv_true (e := []) (fun n v hn => by cases hn) h
  unfold around
  refine sden_true (putSE_sub hs) (fun e H env hs h => ?_) (fun i e H env _ h => by cases h) (fun e H env _ h => by cases h) h
  rw [the_oBusy] at h
  obtain ⟨p, f', k', env', h1, h2⟩ := opBusy_true h
  refine ⟨rfl, ?_⟩
  rw [h1]
  refine sden_true hs (fun e H env hs h => ?_) (fun i e H env _ h => ?_) (fun e H env _ h => ?_) h2
  all_goals
    rw [the_oYld] at h
    obtain ⟨st, p, f, k, env, g1, g2⟩ := opYld_true h
    simp only [yieldQ, g1]
    exact ⟨_, rfl, g2⟩
/-- A round, worked out. -/
def mkYld {f k : Nat} {ps : List Nat} {sa sb : SC P} (m : Nat) (live : List Nat) (hc : compLoop P f k = some ⟨ps, sa.er, sb.er⟩) (hm : ps.length = m) (g : Nat → Env → FunT m) (hg : ∀ n env, g n env = curF m (srnd (theOps P) ps sa sb live n env)) : YAlt P :=
  ⟨f, k, fun n env vs H kt => appF m (g n env) vs H kt, fun W0 n st pend env vs H kt hgt h => by
    rw [hg] at h
    replace h := appF_true h; obtain ⟨h1, h2⟩ := h
    exact srnd_true hc (by omega) hgt h2⟩
def mkRun {f : FuncId} {N : Nat} {s : SC P} {rs : List ARes} (n : Nat) (hk : compFn P f = some ⟨N, s.er, rs⟩) (hn : n ≤ N) (g : FunT n) (hg : g = curF n (sfn (theOps P) s rs)) : RunF P f :=
  ⟨fun vs H k => appF n g vs H k, fun W0 vs H k h => by
    subst hg
    replace h := appF_true h; obtain ⟨h1, h2⟩ := h
    exact sfn_true hk (by omega) h2⟩
end
end
end Ram
