/- A part of the proof: contracts of functions, over the abstract machine. -/
import Derived.Test.YtjaammiblfndaaaGreatDoorEvF
set_option linter.unusedVariables false
set_option linter.unusedSimpArgs false
set_option linter.all false
/- Runs in which all is worked out at once: words for the kernel. -/
namespace Ram
open Go

section
variable {R : Type}
def fNat (n : Nat) (K : Nat → R) : R := match n with
  | 0 => K 0
  | m + 1 => K (m + 1)
theorem fNat_eq (n : Nat) (K : Nat → R) : fNat n K = K n := by cases n <;> rfl
def fInt (n : Int) (K : Int → R) : R := match n with
  | .ofNat m => fNat m fun m => K (.ofNat m)
  | .negSucc m => fNat m fun m => K (.negSucc m)
theorem fInt_eq (n : Int) (K : Int → R) : fInt n K = K n := by cases n <;> simp [fInt, fNat_eq]
def fSp {α : Type} (l : List α) (K : List α → R) : R := match l with
  | [] => K []
  | x :: r => fSp r fun r => K (x :: r)
theorem fSp_eq {α : Type} : ∀ (l : List α) (K : List α → R), fSp l K = K l
  | [], _ => rfl
  | x :: r, K => by simp only [fSp]; rw [fSp_eq r]
def fBool (b : Bool) (K : Bool → R) : R := match b with
  | true => K true
  | false => K false
theorem fBool_eq (b : Bool) (K : Bool → R) : fBool b K = K b := by cases b <;> rfl
def fAd (a : Option (Nat × Nat)) (K : Option (Nat × Nat) → R) : R := match a with
  | none => K none
  | some (i, o) => fNat i fun i => fNat o fun o => K (some (i, o))
theorem fAd_eq (a : Option (Nat × Nat)) (K : Option (Nat × Nat) → R) : fAd a K = K a := by cases a <;> simp [fAd, fNat_eq]
def fOn (a : Option Nat) (K : Option Nat → R) : R := match a with
  | none => K none
  | some i => fNat i fun i => K (some i)
theorem fOn_eq (a : Option Nat) (K : Option Nat → R) : fOn a K = K a := by cases a <;> simp [fOn, fNat_eq]
mutual
def fV (v : V) (K : V → R) : R := match v with
  | .b x => fBool x fun x => K (.b x)
  | .i k n => fInt n fun n => K (.i k n)
  | .s l => fSp l fun l => K (.s l)
  | .p a => fAd a fun a => K (.p a)
  | .sl e a n c => fNat e fun e => fAd a fun a => fNat n fun n => fNat c fun c => K (.sl e a n c)
  | .m r => fOn r fun r => K (.m r)
  | .f g xs ys => fVs xs fun xs => fVs ys fun ys => K (.f g xs ys)
  | .nf => K .nf
  | .ifc t v => fV v fun v => K (.ifc t v)
  | .ni => K .ni
  | .agg l => fVs l fun l => K (.agg l)
  | .tup l => fVs l fun l => K (.tup l)
def fVs (l : List V) (K : List V → R) : R := match l with
  | [] => K []
  | x :: r => fV x fun x => fVs r fun r => K (x :: r)
end
mutual
theorem fV_eq : ∀ (v : V) (K : V → R), fV v K = K v
  | .b x, K => by simp only [fV, fBool_eq]
  | .i k n, K => by simp only [fV, fInt_eq]
  | .s l, K => by simp only [fV, fSp_eq]
  | .p a, K => by simp only [fV, fAd_eq]
  | .sl e a n c, K => by simp only [fV, fNat_eq, fAd_eq]
  | .m r, K => by simp only [fV, fOn_eq]
  | .f g xs ys, K => by simp only [fV]; rw [fVs_eq xs, fVs_eq ys]
  | .nf, K => by simp only [fV]
  | .ifc t v, K => by simp only [fV]; rw [fV_eq v]
  | .ni, K => by simp only [fV]
  | .agg l, K => by simp only [fV]; rw [fVs_eq l]
  | .tup l, K => by simp only [fV]; rw [fVs_eq l]
theorem fVs_eq : ∀ (l : List V) (K : List V → R), fVs l K = K l
  | [], K => by simp only [fVs]
  | x :: r, K => by simp only [fVs]; rw [fV_eq x, fVs_eq r]
end
/-- A tree with one value set. -/
def fSet {α : Type} : Nat → Tr α → Nat → α → (Tr α → R) → R
  | 0, t, _, _, K => K t
  | n + 1, .leaf, k, x, K => match Nat.beq k 0 with
    | true => K (.node .leaf (some x) .leaf)
    | false => match Nat.beq (k % 2) 1 with
      | true => fNat (k / 2) fun k => fSet n .leaf k x fun l => K (.node l none .leaf)
      | false => fNat (k / 2 - 1) fun k => fSet n .leaf k x fun r => K (.node .leaf none r)
  | n + 1, .node l v r, k, x, K => match Nat.beq k 0 with
    | true => K (.node l (some x) r)
    | false => match Nat.beq (k % 2) 1 with
      | true => fNat (k / 2) fun k => fSet n l k x fun l => K (.node l v r)
      | false => fNat (k / 2 - 1) fun k => fSet n r k x fun r => K (.node l v r)
theorem fSet_eq {α : Type} : ∀ (n : Nat) (t : Tr α) (k : Nat) (x : α) (K : Tr α → R), fSet n t k x K = K (Tr.setF n t k x)
  | 0, _, _, _, _ => rfl
  | n + 1, .leaf, k, x, K => by
    simp only [fSet, Tr.setF, fNat_eq]
    by_cases h0 : k = 0
    · subst h0; rfl
    · rw [if_neg h0]
      have : Nat.beq k 0 = false := by cases h : Nat.beq k 0; rfl; exact absurd (Nat.eq_of_beq_eq_true h) h0
      rw [this]
      by_cases h1 : k % 2 = 1
      · rw [if_pos h1, h1]; simp only [show Nat.beq 1 1 = true from rfl]; rw [fSet_eq n]
      · rw [if_neg h1]
        have : Nat.beq (k % 2) 1 = false := by cases h : Nat.beq (k % 2) 1; rfl; exact absurd (Nat.eq_of_beq_eq_true h) h1
        rw [this]; simp only; rw [fSet_eq n]
  | n + 1, .node l v r, k, x, K => by
    simp only [fSet, Tr.setF, fNat_eq]
    by_cases h0 : k = 0
    · subst h0; rfl
    · rw [if_neg h0]
      have : Nat.beq k 0 = false := by cases h : Nat.beq k 0; rfl; exact absurd (Nat.eq_of_beq_eq_true h) h0
      rw [this]
      by_cases h1 : k % 2 = 1
      · rw [if_pos h1, h1]; simp only [show Nat.beq 1 1 = true from rfl]; rw [fSet_eq n]
      · rw [if_neg h1]
        have : Nat.beq (k % 2) 1 = false := by cases h : Nat.beq (k % 2) 1; rfl; exact absurd (Nat.eq_of_beq_eq_true h) h1
        rw [this]; simp only; rw [fSet_eq n]
def fPut (env : Env) (d : Option Nat) (v : V) (K : Env → R) : R := match d with
  | some d => fV v fun v => fSet (d + 1) env d v K
  | none => K env
theorem fPut_eq (env : Env) (d : Option Nat) (v : V) (K : Env → R) : fPut env d v K = K (putE env d v) := by
  cases d with
  | none => rfl
  | some d => simp only [fPut]; rw [fV_eq, fSet_eq]; rfl
def fEs (l : List (V × V)) (K : List (V × V) → R) : R := match l with
  | [] => K []
  | (x, y) :: r => fEs r fun r => K ((x, y) :: r)
theorem fEs_eq : ∀ (l : List (V × V)) (K : List (V × V) → R), fEs l K = K l
  | [], _ => rfl
  | (x, y) :: r, K => by simp only [fEs]; rw [fEs_eq r]
def fO (o : AO) (K : AO → R) : R := match o with
  | .cells md cs => fSp cs fun cs => K (.cells md cs)
  | .map es => fEs es fun es => K (.map es)
  | .iter l p => fSp l fun l => fNat p fun p => K (.iter l p)
  | .mbox r => K (.mbox r)
  | .miter r => fOn r fun r => K (.miter r)
  | .bld T r n => fOn r fun r => fNat n fun n => K (.bld T r n)
  | .bbuf e l => fSp l fun l => K (.bbuf e l)
  | .loop st p f k e => K (.loop st p f k e)
  | .dead => K .dead
theorem fO_eq (o : AO) (K : AO → R) : fO o K = K o := by cases o <;> simp [fO, fSp_eq, fEs_eq, fNat_eq, fOn_eq]
/-- What an act does to the heap. -/
inductive HD where
  | same
  | set (i : Nat) (o : AO)
  | alloc (o : AO)
  | move (i : Nat) (o : AO)
def HD.on (H : AH) : HD → AH
  | .same => H
  | .set i o => H.set i o
  | .alloc o => H.alloc o
  | .move i o => (H.set i .dead).alloc o
def fSetH (H : AH) (i : Nat) (o : AO) (K : AH → R) : R := match H with
  | ⟨n, t⟩ => fNat i fun i => fO o fun o => fSet (i + 1) t i o fun t => K ⟨n, t⟩
theorem fSetH_eq (H : AH) (i : Nat) (o : AO) (K : AH → R) : fSetH H i o K = K (H.set i o) := by
  simp only [fSetH, fNat_eq, fO_eq, fSet_eq]; rfl
def fAlH (H : AH) (o : AO) (K : AH → R) : R := match H with
  | ⟨n, t⟩ => fNat n fun n => fO o fun o => fSet (n + 1) t n o fun t => fNat (n + 1) fun n => K ⟨n, t⟩
theorem fAlH_eq (H : AH) (o : AO) (K : AH → R) : fAlH H o K = K (H.alloc o) := by
  simp only [fAlH, fNat_eq, fO_eq, fSet_eq]; rfl
def HD.fOn (H : AH) (d : HD) (K : AH → R) : R := match d with
  | .same => K H
  | .set i o => fSetH H i o K
  | .alloc o => fAlH H o K
  | .move i o => fSetH H i .dead fun H => fAlH H o K
theorem HD.fOn_eq (H : AH) (d : HD) (K : AH → R) : d.fOn H K = K (d.on H) := by cases d <;> simp [HD.fOn, HD.on, fSetH_eq, fAlH_eq]
def fBump (H : AH) (m : Nat) (K : AH → R) : R := match H with
  | ⟨n, t⟩ => fNat (n + m) fun n => K ⟨n, t⟩
theorem fBump_eq (H : AH) (m : Nat) (K : AH → R) : fBump H m K = K (H.bump m) := by
  cases m with
  | zero => simp only [fBump, fNat_eq]; rfl
  | succ m => simp only [fBump, fNat_eq]; rfl
def fFlush (base k : Nat) (l : Pend) (H : AH) (K : AH → R) : R := match l with
  | [] => K H
  | (i, h, o) :: r => match Nat.beq h k with
    | true => fFlush base k r H fun H => fSetH H (base + i) o K
    | false => fFlush base k r H K
theorem fFlush_eq (base k : Nat) : ∀ (l : Pend) (H : AH) (K : AH → R), fFlush base k l H K = K (flushAt base k l H)
  | [], _, _ => rfl
  | (i, h, o) :: r, H, K => by
    simp only [fFlush, flushAt]
    by_cases e : h = k
    · subst e; rw [if_pos rfl]
      have : Nat.beq h h = true := Nat.beq_refl h
      rw [this]; simp only; rw [fFlush_eq base h r, fSetH_eq]
    · rw [if_neg e]
      have : Nat.beq h k = false := by cases hh : Nat.beq h k; rfl; exact absurd (Nat.eq_of_beq_eq_true hh) e
      rw [this]; simp only; rw [fFlush_eq base k r]
end
def aactD_st (n : Nat) (a : X) (x : X) (e : Env) (H : AH) : Option (V × HD) := match a.ev e, x.ev e with
  | some (.p (some (id, o))), some v => match H.get id with
    | some (.cells md cs) => if md ≠ .ro ∧ v.cells.length = n ∧ v.cells.all V.one = true ∧ o + n ≤ cs.length then some (.tup [], .set id (.cells md (splice cs o v.cells))) else none
    | _ => none
  | _, _ => none
def aactD_append (es : Nat) (bytes : Nat) (x : X) (y : X) (e : Env) (H : AH) : Option (V × HD) := match x.ev e, y.ev e with
  | some (.sl es' a len cap), some y => match newCells H es y with
    | some (m, xs) =>
      if ((len + m) * bytes ≤ 140737488355328 ∧ len + m ≤ 9223372036854775807) then
      match a with
      | none => if m = 0 then some (.sl es' none 0 0, .same) else some (.sl es (some (H.next, 0)) m m, .alloc (.cells .rw xs))
      | some (id, o) =>
        if es' ≠ es then none else
        if m = 0 then some (.sl es (some (id, o)) len cap, .same) else
        match H.get id with
        | some (.cells md cs) =>
          if md = .ro then none else
          if len + m ≤ cap then
            if o + (len + m) * es ≤ cs.length then some (.sl es (some (id, o)) (len + m) cap, .set id (.cells md (splice cs (o + len * es) xs))) else none
          else if o + len * es = cs.length then
            some (.sl es (some (H.next, 0)) (len + m) (len + m), .move id (.cells md (cs.drop o ++ xs)))
          else none
        | _ => none
      else none
    | none => none
  | _, _ => none
def aactD_mapUpd (ks : KS) (m : X) (k : X) (v : X) (e : Env) (H : AH) : Option (V × HD) := match m.ev e, k.ev e, v.ev e with
  | some (.m (some id)), some k, some v => if keyOk ks k then match H.get id with
    | some (.map es) => match findV ks k es with
      | some (some (i, _)) => some (.tup [], .set id (.map (es.set i (k, v))))
      | some none => some (.tup [], .set id (.map (es ++ [(k, v)])))
      | none => none
    | _ => none else none
  | _, _, _ => none
def aactD_del (ks : KS) (m : X) (k : X) (e : Env) (H : AH) : Option (V × HD) := match m.ev e, k.ev e with
  | some (.m none), some k => if keyOk ks k then some (.tup [], .same) else none
  | some (.m (some id)), some k => if keyOk ks k then match H.get id with
    | some (.map es) => match findV ks k es with
      | some (some (i, _)) => some (.tup [], .set id (.map (es.eraseIdx i)))
      | some none => some (.tup [], .same)
      | none => none
    | _ => none else none
  | _, _ => none
def aactD_clearM (m : X) (e : Env) (H : AH) : Option (V × HD) := match m.ev e with
  | some (.m none) => some (.tup [], .same)
  | some (.m (some id)) => match H.get id with
    | some (.map _) => some (.tup [], .set id (.map []))
    | _ => none
  | _ => none
def aactD_clearSl (es : Nat) (zs : List V) (x : X) (e : Env) (H : AH) : Option (V × HD) := match x.ev e with
  | some (.sl _ none _ _) => some (.tup [], .same)
  | some (.sl _ _ 0 _) => some (.tup [], .same)
  | some (.sl es' (some (id, o)) len _) => match H.get id with
    | some (.cells md cs) => if es' = es ∧ md ≠ .ro ∧ o + len * es ≤ cs.length then some (.tup [], .set id (.cells md (splice cs o ((List.replicate len zs).flatten)))) else none
    | _ => none
  | _ => none
def aactD_copy (es : Nat) (x : X) (y : X) (e : Env) (H : AH) : Option (V × HD) := match x.ev e, y.ev e with
  | some (.sl es' a len _), some y => match newCells H es y with
    | some (m, xs) => match a with
      | none => some (.i .i64 0, .same)
      | some (id, o) => match H.get id with
        | some (.cells md cs) =>
          if es' = es ∧ md ≠ .ro ∧ o + min m len * es ≤ cs.length then some (.i .i64 (min m len : Nat), .set id (.cells md (splice cs o (xs.take (min m len * es))))) else none
        | _ => none
    | none => none
  | _, _ => none
def aactD_nextS (x : X) (e : Env) (H : AH) : Option (V × HD) := match x.ev e with
  | some (.p (some (id, 0))) => match H.get id with
    | some (.iter l pos) =>
      if pos < l.length then
        some (.tup [.b true, .i .i64 pos, .i .i32 (Utf8.decode ⟨l.toArray⟩ pos).1], .set id (.iter l (pos + (Utf8.decode ⟨l.toArray⟩ pos).2)))
      else some (.tup [.b false], .same)
    | _ => none
  | _ => none


def aactD_rangeM (x : X) (e : Env) (H : AH) : Option (V × HD) := match x.ev e with
  | some (.m none) => some (.p (some (H.next, 0)), .alloc (.miter none))
  | some (.m (some id)) => match H.get id with
    | some (.map _) => some (.p (some (H.next, 0)), .alloc (.miter (some id)))
    | _ => none
  | _ => none
def aactD_nextM (x : X) (e : Env) (H : AH) : Option (V × HD) := match x.ev e with
  | some (.p (some (i, 0))) => match H.get i with
    | some (.miter none) => some (.tup [.b false], .same)
    | some (.miter (some id)) => match H.get id with
      | some (.map []) => some (.tup [.b false], .same)
      | _ => none
    | _ => none
  | _ => none
def aactD : ActOp → Env → AH → Option (V × HD)
  | .st n a x, e, H => aactD_st n a x e H
  | .append es bytes x y, e, H => aactD_append es bytes x y e H
  | .mapUpd ks m k v, e, H => aactD_mapUpd ks m k v e H
  | .del ks m k, e, H => aactD_del ks m k e H
  | .clearM m, e, H => aactD_clearM m e H
  | .clearSl es zs x, e, H => aactD_clearSl es zs x e H
  | .copy es x y, e, H => aactD_copy es x y e H
  | .nextS x, e, H => aactD_nextS x e H
  | .rangeM x, e, H => aactD_rangeM x e H
  | .nextM x, e, H => aactD_nextM x e H
  | .entryM _, _, _ => none
theorem aactD_st_eq (n : Nat) (a x : X) (e : Env) (H : AH) : aact (.st n a x) e H = (aactD_st n a x e H).map fun p => (p.1, p.2.on H) := by
  unfold aactD_st
  simp only [aact]
  cases ha : a.ev e with
  | none => rfl
  | some va =>
    cases hx : x.ev e with
    | none => cases va <;> first | rfl | (rename_i q; cases q <;> rfl)
    | some v =>
      cases va with
      | p q =>
        cases q with
        | none => rfl
        | some q =>
          obtain ⟨id, o⟩ := q
          simp only
          cases hg : H.get id with
          | none => rfl
          | some ob =>
            cases ob with
            | cells md cs =>
              simp only
              by_cases hc : md ≠ .ro ∧ v.cells.length = n ∧ v.cells.all V.one = true ∧ o + n ≤ cs.length
              · rw [if_pos hc, if_pos hc]; rfl
              · rw [if_neg hc, if_neg hc]; rfl
            | _ => rfl
      | _ => rfl
theorem aactD_mapUpd_eq (ks : KS) (m k v : X) (e : Env) (H : AH) : aact (.mapUpd ks m k v) e H = (aactD_mapUpd ks m k v e H).map fun p => (p.1, p.2.on H) := by
  unfold aactD_mapUpd
  simp only [aact]
  (repeat' (first | rfl | split)) <;> simp_all [HD.on]
theorem aactD_del_eq (ks : KS) (m k : X) (e : Env) (H : AH) : aact (.del ks m k) e H = (aactD_del ks m k e H).map fun p => (p.1, p.2.on H) := by
  unfold aactD_del
  simp only [aact]
  (repeat' (first | rfl | split)) <;> simp_all [HD.on]
theorem aactD_clearM_eq (m : X) (e : Env) (H : AH) : aact (.clearM m) e H = (aactD_clearM m e H).map fun p => (p.1, p.2.on H) := by
  unfold aactD_clearM
  simp only [aact]
  (repeat' (first | rfl | split)) <;> simp_all [HD.on]
theorem aactD_clearSl_eq (es : Nat) (zs : List V) (x : X) (e : Env) (H : AH) : aact (.clearSl es zs x) e H = (aactD_clearSl es zs x e H).map fun p => (p.1, p.2.on H) := by
  unfold aactD_clearSl
  simp only [aact]
  cases hx : x.ev e with
  | none => rfl
  | some v =>
    cases v with
    | sl es' a len cap =>
      cases a with
      | none => rfl
      | some q =>
        obtain ⟨id, o⟩ := q
        cases len with
        | zero => rfl
        | succ len =>
          simp only
          cases hg : H.get id with
          | none => rfl
          | some ob =>
            cases ob with
            | cells md cs =>
              simp only
              by_cases hc : es' = es ∧ md ≠ .ro ∧ o + (len + 1) * es ≤ cs.length
              · rw [if_pos hc, if_pos hc]; rfl
              · rw [if_neg hc, if_neg hc]; rfl
            | _ => rfl
    | _ => rfl
theorem aactD_copy_eq (es : Nat) (x y : X) (e : Env) (H : AH) : aact (.copy es x y) e H = (aactD_copy es x y e H).map fun p => (p.1, p.2.on H) := by
  unfold aactD_copy
  simp only [aact]
  cases hx : x.ev e with
  | none => rfl
  | some v =>
    cases hy : y.ev e with
    | none => cases v <;> rfl
    | some vy =>
      cases v with
      | sl es' a len cap =>
        simp only
        cases hn : newCells H es vy with
        | none => rfl
        | some p =>
          obtain ⟨m, xs⟩ := p
          cases a with
          | none => rfl
          | some q =>
            obtain ⟨id, o⟩ := q
            simp only
            cases hg : H.get id with
            | none => rfl
            | some ob =>
              cases ob with
              | cells md cs =>
                simp only
                by_cases hc : es' = es ∧ md ≠ .ro ∧ o + min m len * es ≤ cs.length
                · rw [if_pos hc, if_pos hc]; rfl
                · rw [if_neg hc, if_neg hc]; rfl
              | _ => rfl
      | _ => rfl
theorem aactD_nextS_eq (x : X) (e : Env) (H : AH) : aact (.nextS x) e H = (aactD_nextS x e H).map fun p => (p.1, p.2.on H) := by
  unfold aactD_nextS
  simp only [aact]
  cases hx : x.ev e with
  | none => rfl
  | some v =>
    cases v with
    | p a =>
      cases a with
      | none => rfl
      | some q =>
        obtain ⟨id, o⟩ := q
        cases o with
        | succ o => rfl
        | zero =>
          simp only
          cases hg : H.get id with
          | none => rfl
          | some ob =>
            cases ob with
            | iter l pos =>
              simp only
              by_cases hc : pos < l.length
              · rw [if_pos hc, if_pos hc]; rfl
              · rw [if_neg hc, if_neg hc]; rfl
            | _ => rfl
    | _ => rfl
theorem aactD_append_eq (es bytes : Nat) (x y : X) (e : Env) (H : AH) : aact (.append es bytes x y) e H = (aactD_append es bytes x y e H).map fun p => (p.1, p.2.on H) := by
  unfold aactD_append
  simp only [aact]
  cases hx : x.ev e with
  | none => rfl
  | some vx =>
    cases hy : y.ev e with
    | none => cases vx <;> rfl
    | some vy =>
      cases vx with
      | sl es' a len cap =>
        simp only
        cases hn : newCells H es vy with
        | none => rfl
        | some p =>
          obtain ⟨m, xs⟩ := p
          simp only
          by_cases hb : (len + m) * bytes ≤ 140737488355328 ∧ len + m ≤ 9223372036854775807
          · rw [if_pos hb, if_pos hb]
            cases a with
            | none =>
              simp only
              by_cases hm : m = 0
              · rw [if_pos hm, if_pos hm]; rfl
              · rw [if_neg hm, if_neg hm]; rfl
            | some q =>
              obtain ⟨id, o⟩ := q
              simp only
              by_cases he : es' ≠ es
              · rw [if_pos he, if_pos he]; rfl
              · rw [if_neg he, if_neg he]
                by_cases hm : m = 0
                · rw [if_pos hm, if_pos hm]; rfl
                · rw [if_neg hm, if_neg hm]
                  cases hg : H.get id with
                  | none => rfl
                  | some ob =>
                    cases ob with
                    | cells md cs =>
                      simp only
                      by_cases hr : md = .ro
                      · rw [if_pos hr, if_pos hr]; rfl
                      · rw [if_neg hr, if_neg hr]
                        by_cases hc : len + m ≤ cap
                        · rw [if_pos hc, if_pos hc]
                          by_cases hf : o + (len + m) * es ≤ cs.length
                          · rw [if_pos hf, if_pos hf]; rfl
                          · rw [if_neg hf, if_neg hf]; rfl
                        · rw [if_neg hc, if_neg hc]
                          by_cases hf : o + len * es = cs.length
                          · rw [if_pos hf, if_pos hf]; rfl
                          · rw [if_neg hf, if_neg hf]; rfl
                    | _ => rfl
          · rw [if_neg hb, if_neg hb]; rfl
      | _ => rfl
theorem aactD_rangeM_eq (x : X) (e : Env) (H : AH) : aact (.rangeM x) e H = (aactD_rangeM x e H).map fun p => (p.1, p.2.on H) := by
  unfold aactD_rangeM
  simp only [aact]
  (repeat' (first | rfl | split)) <;> simp_all [HD.on]
theorem aactD_nextM_eq (x : X) (e : Env) (H : AH) : aact (.nextM x) e H = (aactD_nextM x e H).map fun p => (p.1, p.2.on H) := by
  unfold aactD_nextM
  simp only [aact]
  (repeat' (first | rfl | split)) <;> simp_all [HD.on]
theorem aactD_eq (o : ActOp) (e : Env) (H : AH) : aact o e H = (aactD o e H).map fun p => (p.1, p.2.on H) := by
  cases o with
  | st => exact aactD_st_eq ..
  | append => exact aactD_append_eq ..
  | mapUpd => exact aactD_mapUpd_eq ..
  | del => exact aactD_del_eq ..
  | clearM => exact aactD_clearM_eq ..
  | clearSl => exact aactD_clearSl_eq ..
  | copy => exact aactD_copy_eq ..
  | nextS => exact aactD_nextS_eq ..
  | rangeM => exact aactD_rangeM_eq ..
  | nextM => exact aactD_nextM_eq ..
  | entryM => rfl
end Ram
