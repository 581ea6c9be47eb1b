/- A part of the proof: contracts of functions, over the abstract machine. -/
import Derived.Test.YtjaammiblfndaaaGreatDoorFx2
set_option linter.unusedVariables false
set_option linter.unusedSimpArgs false
set_option linter.all false
/- Words for runs that the kernel reckons fast: the other operations that read no memory. -/
namespace Ram
open Go
noncomputable section
variable {k : V → Bool}

def opConv (kd : IntKind) (a : V) (k : V → Bool) : Bool := asI a fun _ n => wrapZ kd n fun r => k (.i kd r)
theorem opConv_true {kd : IntKind} {a : V} (h : opConv kd a k = true) : ∃ v, apure (.conv kd (.c a)) .leaf = some v ∧ k v = true := by
  replace h := asI_true h; obtain ⟨ka, na, rfl, h⟩ := h
  rw [wrapZ_eq] at h
  exact ⟨_, by simp [apure, X.ev], h⟩
def opNot (a : V) (k : V → Bool) : Bool := asB a fun b => iteB b (k (.b true)) (k (.b false))
theorem opNot_true {t : V} (h : opNot t k = true) : ∃ v, apure (.un .not (.c t)) .leaf = some v ∧ k v = true := by
  replace h := asB_true h; obtain ⟨b, rfl, h⟩ := h
  exact ⟨.b (!b), by simp [apure, X.ev], by cases b <;> exact h⟩
def opNeg (a : V) (k : V → Bool) : Bool := asI a fun ka n => subZ 0 n fun r => wrapZ ka r fun r => k (.i ka r)
theorem opNeg_true {a : V} (h : opNeg a k = true) : ∃ v, apure (.un .neg (.c a)) .leaf = some v ∧ k v = true := by
  replace h := asI_true h; obtain ⟨ka, na, rfl, h⟩ := h
  rw [subZ_eq, wrapZ_eq] at h
  exact ⟨_, by simp [apure, X.ev], h⟩
def opLenS (a : V) (k : V → Bool) : Bool := asS a fun l => lenL l fun n => k (.i .i64 (Int.ofNat n))
theorem opLenS_true {a : V} (h : opLenS a k = true) : ∃ v, apure (.lenS (.c a)) .leaf = some v ∧ k v = true := by
  replace h := asS_true h; obtain ⟨l, rfl, h⟩ := h
  rw [lenL_eq] at h
  exact ⟨_, by simp [apure, X.ev], h⟩
def opLenSl (a : V) (k : V → Bool) : Bool := asSl a fun _ _ n _ => k (.i .i64 (Int.ofNat n))
theorem opLenSl_true {a : V} (h : opLenSl a k = true) : ∃ v, apure (.lenSl (.c a)) .leaf = some v ∧ k v = true := by
  replace h := asSl_true h; obtain ⟨e, q, n, c, rfl, h⟩ := h
  exact ⟨_, by simp [apure, X.ev], h⟩
/-- A place. -/
def atA (a : Option (Nat × Nat)) (g : Nat → Nat → Bool) : Bool := Option.rec (motive := fun _ => Bool) false (fun p => Prod.rec (motive := fun _ => Bool) (fun i o => g i o) p) a
theorem atA_true {a : Option (Nat × Nat)} {g : Nat → Nat → Bool} (h : atA a g = true) : ∃ i o, a = some (i, o) ∧ g i o = true := by
  cases a with
  | none => cases h
  | some p => exact ⟨p.1, p.2, rfl, h⟩
def atA2 (a : Option (Nat × Nat)) (n : Bool) (g : Nat → Nat → Bool) : Bool := Option.rec (motive := fun _ => Bool) n (fun p => Prod.rec (motive := fun _ => Bool) (fun i o => g i o) p) a
theorem atA2_true {a : Option (Nat × Nat)} {n : Bool} {g : Nat → Nat → Bool} (h : atA2 a n g = true) : (a = none ∧ n = true) ∨ ∃ i o, a = some (i, o) ∧ g i o = true := by
  cases a with
  | none => exact .inl ⟨rfl, h⟩
  | some p => exact .inr ⟨p.1, p.2, rfl, h⟩
/-- A number that is not below 0. -/
def natZ (n : Int) (g : Nat → Bool) : Bool := Int.rec (motive := fun _ => Bool) (fun m => g m) (fun _ => false) n
theorem natZ_true {n : Int} {g : Nat → Bool} (h : natZ n g = true) : ∃ m : Nat, n = m ∧ g m = true := by
  cases n with
  | ofNat m => exact ⟨m, rfl, h⟩
  | negSucc m => cases h
def opIdxAddrSl (es : Nat) (x i : V) (k : V → Bool) : Bool := asSl x fun es' a len _ => asI i fun _ n => natZ n fun m => iteB (Nat.beq es' es) false (iteB (Nat.ble (Nat.succ m) len) false (atA a fun id o => fN (Nat.add o (Nat.mul m es)) fun o => k (.p (some (id, o)))))
theorem opIdxAddrSl_true {es : Nat} {x i : V} (h : opIdxAddrSl es x i k = true) : ∃ v, apure (.idxAddrSl es (.c x) (.c i)) .leaf = some v ∧ k v = true := by
  replace h := asSl_true h; obtain ⟨e, q, n, c, rfl, h⟩ := h
  replace h := asI_true h; obtain ⟨ka, na, rfl, h⟩ := h
  replace h := natZ_true h; obtain ⟨m, rfl, h⟩ := h
  replace h := iteB_f h; obtain ⟨h1, h⟩ := h
  replace h := iteB_f h; obtain ⟨h2, h⟩ := h
  replace h := atA_true h; obtain ⟨id, o, rfl, h⟩ := h
  have h1 := Nat.eq_of_beq_eq_true h1
  have h2 : m + 1 ≤ n := Nat.le_of_ble_eq_true h2
  subst h1
  refine ⟨_, ?_, h⟩
  simp only [apure, X.ev]
  rw [if_pos ⟨trivial, by omega, by omega⟩]
  simp only [Int.toNat_natCast]
  rfl
def opIdxAddrArr (len es : Nat) (x i : V) (k : V → Bool) : Bool := asP x fun id o => asI i fun _ n => natZ n fun m => iteB (Nat.ble (Nat.succ m) len) false (fN (Nat.add o (Nat.mul m es)) fun o => k (.p (some (id, o))))
theorem opIdxAddrArr_true {len es : Nat} {x i : V} (h : opIdxAddrArr len es x i k = true) : ∃ v, apure (.idxAddrArr len es (.c x) (.c i)) .leaf = some v ∧ k v = true := by
  replace h := asP_true h; obtain ⟨id, o, rfl, h⟩ := h
  replace h := asI_true h; obtain ⟨ka, na, rfl, h⟩ := h
  replace h := natZ_true h; obtain ⟨m, rfl, h⟩ := h
  replace h := iteB_f h; obtain ⟨h2, h⟩ := h
  have h2 : m + 1 ≤ len := Nat.le_of_ble_eq_true h2
  refine ⟨_, ?_, h⟩
  simp only [apure, X.ev]
  rw [if_pos ⟨by omega, by omega⟩]
  simp only [Int.toNat_natCast]
  rfl
def opFieldAddr (off : Nat) (x : V) (k : V → Bool) : Bool := asP x fun id o => fN (Nat.add o off) fun o => k (.p (some (id, o)))
theorem opFieldAddr_true {off : Nat} {x : V} (h : opFieldAddr off x k = true) : ∃ v, apure (.fieldAddr off (.c x)) .leaf = some v ∧ k v = true := by
  replace h := asP_true h; obtain ⟨id, o, rfl, h⟩ := h
  exact ⟨_, by simp [apure, X.ev], h⟩
/-- A part of some cells. -/
def opField (agg : Bool) (off n : Nat) (x : V) (k : V → Bool) : Bool := asAgg x fun cs => iteB agg (nthL cs off k) (dropL cs off fun r => takeL r n fun r => k (.agg r))
theorem opField_true {agg : Bool} {off n : Nat} {x : V} (h : opField agg off n x k = true) : ∃ v, apure (.field agg off n (.c x)) .leaf = some v ∧ k v = true := by
  replace h := asAgg_true h; obtain ⟨cs, rfl, h⟩ := h
  replace h := iteB_true h; rcases h with ⟨rfl, h⟩ | ⟨rfl, h⟩
  · exact ⟨_, by simp [apure, X.ev], (takeL_true (dropL_true h).2).2⟩
  · replace h := nthL_true h; obtain ⟨v, h1, h2⟩ := h
    exact ⟨v, by simp [apure, X.ev, h1], h2⟩
def opIdxArr (agg : Bool) (len es : Nat) (x i : V) (k : V → Bool) : Bool := asAgg x fun cs => asI i fun _ n => natZ n fun m => iteB (Nat.ble (Nat.succ m) len) false (fN (Nat.mul m es) fun o => iteB agg (nthL cs o k) (dropL cs o fun r => takeL r es fun r => k (.agg r)))
theorem opIdxArr_true {agg : Bool} {len es : Nat} {x i : V} (h : opIdxArr agg len es x i k = true) : ∃ v, apure (.idxArr agg len es (.c x) (.c i)) .leaf = some v ∧ k v = true := by
  replace h := asAgg_true h; obtain ⟨cs, rfl, h⟩ := h
  replace h := asI_true h; obtain ⟨ka, na, rfl, h⟩ := h
  replace h := natZ_true h; obtain ⟨m, rfl, h⟩ := h
  replace h := iteB_f h; obtain ⟨h2, h⟩ := h
  have h2 : m + 1 ≤ len := Nat.le_of_ble_eq_true h2
  rw [fN_eq] at h
  have e : apure (.idxArr agg len es (.c (.agg cs)) (.c (.i ka m))) .leaf = if agg then some (.agg ((cs.drop (m * es)).take es)) else cs[m * es]? := by
    simp only [apure, X.ev]
    rw [if_pos ⟨by omega, by omega⟩]
    simp only [Int.toNat_natCast]
  rw [e]
  replace h := iteB_true h; rcases h with ⟨rfl, h⟩ | ⟨rfl, h⟩
  · exact ⟨_, if_pos rfl, (takeL_true (dropL_true h).2).2⟩
  · replace h := nthL_true h; obtain ⟨v, h1, h2⟩ := h
    exact ⟨v, h1, h2⟩
def opIdxStr (x i : V) (k : V → Bool) : Bool := asS x fun l => asI i fun _ n => natZ n fun m => nthC l m fun c => fN c.toNat fun r => k (.i .u8 (Int.ofNat r))
theorem opIdxStr_true {x i : V} (h : opIdxStr x i k = true) : ∃ v, apure (.idxStr (.c x) (.c i)) .leaf = some v ∧ k v = true := by
  replace h := asS_true h; obtain ⟨l, rfl, h⟩ := h
  replace h := asI_true h; obtain ⟨ka, na, rfl, h⟩ := h
  replace h := natZ_true h; obtain ⟨m, rfl, h⟩ := h
  replace h := nthC_true h; obtain ⟨c, h1, h⟩ := h
  refine ⟨_, ?_, h⟩
  simp only [apure, X.ev]
  rw [if_pos (by omega), Int.toNat_natCast, h1]
  rfl
def opExtract (i : Nat) (x : V) (k : V → Bool) : Bool := asTup x fun l => nthL l i k
theorem opExtract_true {i : Nat} {x : V} (h : opExtract i x k = true) : ∃ v, apure (.extract i (.c x)) .leaf = some v ∧ k v = true := by
  replace h := asTup_true h; obtain ⟨l, rfl, h⟩ := h
  replace h := nthL_true h; obtain ⟨v, h1, h2⟩ := h
  exact ⟨v, by simp [apure, X.ev, h1], h2⟩
def opPick (c a b : V) (k : V → Bool) : Bool := asB c fun t => iteB t (k b) (k a)
theorem opPick_true {c a b : V} (h : opPick c a b k = true) : ∃ v, apure (.pick (.c c) (.c a) (.c b)) .leaf = some v ∧ k v = true := by
  replace h := asB_true h; obtain ⟨t, rfl, h⟩ := h
  cases t with
  | true => exact ⟨a, by simp [apure, X.ev], h⟩
  | false => exact ⟨b, by simp [apure, X.ev], h⟩
def opNilCheck (x : V) (k : V → Bool) : Bool := V.rec (motive_1 := fun _ => Bool) (motive_2 := fun _ => Bool) (fun _ => false) (fun _ _ => false) (fun _ => false) (fun a => Option.rec (motive := fun _ => Bool) false (fun _ => k x) a) (fun _ _ _ _ => false) (fun _ => false) (fun _ _ _ _ _ => opPure (.nilCheck (.c x)) k) false (fun _ _ _ => false) false (fun _ _ => false) (fun _ _ => false) false (fun _ _ _ _ => false) x
theorem opNilCheck_true {x : V} (h : opNilCheck x k = true) : ∃ v, apure (.nilCheck (.c x)) .leaf = some v ∧ k v = true := by
  cases x with
  | p a => cases a with
    | none => cases h
    | some a => exact ⟨_, by simp [apure, X.ev], h⟩
  | f => exact opPure_true h
  | _ => cases h
/-- A bound. -/
def bndV (y : Nat) (v : V) (g : Nat → Bool) : Bool := asI v fun _ n => natZ n fun m => iteB (Nat.ble m y) false (g m)
theorem bndV_true {y : Nat} {v : V} {g : Nat → Bool} (h : bndV y v g = true) : ∃ m, bnd .leaf y (.c v) = some m ∧ g m = true := by
  replace h := asI_true h; obtain ⟨ka, na, rfl, h⟩ := h
  replace h := natZ_true h; obtain ⟨m, rfl, h⟩ := h
  replace h := iteB_f h; obtain ⟨h2, h⟩ := h
  have h2 : m ≤ y := Nat.le_of_ble_eq_true h2
  refine ⟨m, ?_, h⟩
  simp only [bnd, X.ev]
  rw [if_pos ⟨by omega, by omega⟩, Int.toNat_natCast]
/-- Both bounds, if they are there. -/
def cutV (len cap : Nat) (lo hi : Option V) (g : Nat → Nat → Bool) : Bool := match hi, lo with
  | none, none => g (nat_lit 0) len
  | none, some l => bndV len l fun l => g l len
  | some h, none => bndV cap h fun h => g (nat_lit 0) h
  | some h, some l => bndV cap h fun h => bndV h l fun l => g l h
theorem cutV_true {len cap : Nat} {lo hi : Option V} {g : Nat → Nat → Bool} (h : cutV len cap lo hi g = true) : ∃ l m, cut2 .leaf len cap (lo.map X.c) (hi.map X.c) = some (l, m) ∧ g l m = true := by
  cases hi with
  | none => cases lo with
    | none => exact ⟨0, len, rfl, h⟩
    | some l =>
      replace h := bndV_true h; obtain ⟨m, h1, h⟩ := h
      exact ⟨m, len, by simp only [cut2, Option.map_some, Option.map_none, h1], h⟩
  | some u => cases lo with
    | none =>
      replace h := bndV_true h; obtain ⟨m, h1, h⟩ := h
      exact ⟨0, m, by simp only [cut2, Option.map_some, Option.map_none, h1], h⟩
    | some l =>
      replace h := bndV_true h; obtain ⟨m, h1, h⟩ := h
      replace h := bndV_true h; obtain ⟨n, h2, h⟩ := h
      exact ⟨n, m, by simp only [cut2, Option.map_some, h1, h2], h⟩
def opSlStr (x : V) (lo hi : Option V) (k : V → Bool) : Bool := asS x fun l => lenL l fun n => cutV n n lo hi fun a b => dropL l a fun r => fN (Nat.sub b a) fun m => takeL r m fun r => k (.s r)
theorem opSlStr_true {x : V} {lo hi : Option V} (h : opSlStr x lo hi k = true) : ∃ v, apure (.slStr (.c x) (lo.map X.c) (hi.map X.c)) .leaf = some v ∧ k v = true := by
  replace h := asS_true h; obtain ⟨l, rfl, h⟩ := h
  rw [lenL_eq] at h
  replace h := cutV_true h; obtain ⟨a, b, h1, h⟩ := h
  exact ⟨_, by simp only [apure, X.ev, h1]; rfl, (takeL_true (dropL_true h).2).2⟩
def opSlSl (es : Nat) (x : V) (lo hi : Option V) (k : V → Bool) : Bool := asSl x fun es' a len cap => cutV len cap lo hi fun l h =>
  atA2 a (k (.sl es' none (nat_lit 0) (nat_lit 0))) fun id o => iteB (Nat.beq es' es) false (fN (Nat.add o (Nat.mul l es)) fun o => fN (Nat.sub h l) fun n => fN (Nat.sub cap l) fun c => k (.sl es (some (id, o)) n c))
theorem opSlSl_true {es : Nat} {x : V} {lo hi : Option V} (h : opSlSl es x lo hi k = true) : ∃ v, apure (.slSl es (.c x) (lo.map X.c) (hi.map X.c) none) .leaf = some v ∧ k v = true := by
  replace h := asSl_true h; obtain ⟨e, q, n, c, rfl, h⟩ := h
  replace h := cutV_true h; obtain ⟨a, b, h1, h⟩ := h
  replace h := atA2_true h; rcases h with ⟨rfl, h⟩ | ⟨id, o, rfl, h⟩
  · exact ⟨_, by simp only [apure, X.ev, h1], h⟩
  · replace h := iteB_f h; obtain ⟨h2, h⟩ := h
    have h2 := Nat.eq_of_beq_eq_true h2
    subst h2
    exact ⟨_, by simp only [apure, X.ev, h1, if_true]; rfl, h⟩
/-- A value made of parts. -/
def fill1 (p : Nat × Nat × X) (ih : List V → Bool) (cs : List V) : Bool := Prod.rec (motive := fun _ => Bool) (fun off q => Prod.rec (motive := fun _ => Bool) (fun sz x => X.rec (motive := fun _ => Bool) (fun _ => false) (fun v => fCells v fun vs => lenIs vs sz (spliceL cs off vs ih)) (fun _ => false) x) q) p
def fillL (ps : List (Nat × Nat × X)) (cs : List V) (K : List V → Bool) : Bool := List.rec (motive := fun _ => List V → Bool) (fun cs => K cs) (fun p _ ih cs => fill1 p ih cs) ps cs
theorem fillL_true : ∀ {ps : List (Nat × Nat × X)} {cs : List V} {K : List V → Bool}, fillL ps cs K = true → ∃ r, fillV .leaf cs ps = some r ∧ K r = true
  | [], cs, K, h => ⟨cs, rfl, h⟩
  | (off, sz, x) :: ps, cs, K, h => by
    cases x with
    | c v =>
      have h : fCells v (fun vs => lenIs vs sz (spliceL cs off vs fun cs => fillL ps cs K)) = true := h
      rw [fCells_eq] at h
      replace h := lenIs_true h; obtain ⟨h1, h⟩ := h
      replace h := spliceL_true h; obtain ⟨h2, h⟩ := h
      replace h := fillL_true h; obtain ⟨r, h3, h⟩ := h
      refine ⟨r, ?_, h⟩
      simp only [fillV, X.ev]
      rw [if_pos ⟨h1, by omega⟩, h3]
    | _ => cases h
def opBuild (zs : List V) (ps : List (Nat × Nat × X)) (k : V → Bool) : Bool := fillL ps zs fun cs => k (.agg cs)
theorem opBuild_true {zs : List V} {ps : List (Nat × Nat × X)} (h : opBuild zs ps k = true) : ∃ v, apure (.build zs ps) .leaf = some v ∧ k v = true := by
  replace h := fillL_true h; obtain ⟨r, h1, h⟩ := h
  exact ⟨_, by simp only [apure, h1], h⟩
def opEqB (neg : Bool) (a b : V) (k : V → Bool) : Bool := asB a fun x => asB b fun y => iteB (Bool.rec (motive := fun _ => Bool) (Bool.rec (motive := fun _ => Bool) true false y) y x) (k (.b neg)) (k (.b (Bool.not neg)))
theorem opEqB_true {neg : Bool} {a b : V} (h : opEqB neg a b k = true) : ∃ v, apure (.eqB neg (.c a) (.c b)) .leaf = some v ∧ k v = true := by
  replace h := asB_true h; obtain ⟨x, rfl, h⟩ := h
  replace h := asB_true h; obtain ⟨y, rfl, h⟩ := h
  refine ⟨_, rfl, ?_⟩
  cases neg <;> cases x <;> cases y <;> exact h
def opMvS (a : V) (k : V → Bool) : Bool := asS a fun l => k (.s l)
theorem opMvS_true {a : V} (h : opMvS a k = true) : ∃ v, apure (.mvS (.c a)) .leaf = some v ∧ k v = true := by
  replace h := asS_true h; obtain ⟨l, rfl, h⟩ := h
  exact ⟨_, rfl, h⟩
/-- Constants all. -/
def cVals : List X → Option (List V)
  | [] => some []
  | .c v :: r => match cVals r with
    | some l => some (v :: l)
    | none => none
  | _ :: _ => none
theorem cVals_true : ∀ {l : List X} {vs : List V}, cVals l = some vs → evs .leaf l = some vs
  | [], vs, h => h
  | .c v :: r, vs, h => by
    simp only [cVals] at h
    split at h
    · next l hl => simp only [Option.some.injEq] at h; subst h; simp only [evs, X.ev, cVals_true hl]
    · cases h
  | .t _ :: _, _, h => by cases h
  | .fn _ :: _, _, h => by cases h
def cOpt : Option X → Option (Option V)
  | none => some none
  | some (.c v) => some (some v)
  | some _ => none
theorem cOpt_true {o : Option X} {v : Option V} (h : cOpt o = some v) : o = v.map X.c := by
  cases o with
  | none => simp only [cOpt, Option.some.injEq] at h; subst h; rfl
  | some x => cases x <;> simp only [cOpt, Option.some.injEq] at h <;> first | (subst h; rfl) | cases h

end
end Ram
