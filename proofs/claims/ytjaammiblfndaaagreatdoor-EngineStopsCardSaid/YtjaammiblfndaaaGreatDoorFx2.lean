/- A part of the proof: contracts of functions, over the abstract machine. -/
import Derived.Test.YtjaammiblfndaaaGreatDoorFx1
import Derived.Test.YtjaammiblfndaaaGreatDoorEvG
set_option linter.unusedVariables false
set_option linter.unusedSimpArgs false
set_option linter.all false
/- Words for runs that the kernel reckons fast: operations that read no memory. -/
namespace Ram
open Go
noncomputable section
variable {k : V → Bool}

/-- Any operation. -/
def opPure (o : PureOp) (k : V → Bool) : Bool := match apureF o .leaf with
  | some v => fV v k
  | none => false
theorem opPure_true {o : PureOp} (h : opPure o k = true) : ∃ v, apure o .leaf = some v ∧ k v = true := by
  unfold opPure at h
  rw [apureF_eq] at h
  split at h
  · next v hv => rw [fV_eq] at h; exact ⟨v, hv, h⟩
  · cases h

def asIS (v : V) (g : IntKind → Int → Bool) (s : List UInt8 → Bool) : Bool := V.rec (motive_1 := fun _ => Bool) (motive_2 := fun _ => Bool) (fun _ => false) (fun k n => g k n) (fun l => s l) (fun _ => false) (fun _ _ _ _ => false) (fun _ => false) (fun _ _ _ _ _ => false) false (fun _ _ _ => false) false (fun _ _ => false) (fun _ _ => false) false (fun _ _ _ _ => false) v
theorem asIS_true {v : V} {g : IntKind → Int → Bool} {s : List UInt8 → Bool} (h : asIS v g s = true) : (∃ k n, v = .i k n ∧ g k n = true) ∨ ∃ l, v = .s l ∧ s l = true := by
  cases v <;> first | exact .inl ⟨_, _, rfl, h⟩ | exact .inr ⟨_, rfl, h⟩ | (cases h; done)

def opAdd (a b : V) (k : V → Bool) : Bool := asIS a (fun ka na => asI b fun kb nb => eqK ka kb (addZ na nb fun r => wrapZ ka r fun r => k (.i ka r)))
  (fun la => asS b fun lb => lenL la fun n => lenL lb fun m => iteB (Nat.ble (Nat.add n m) (nat_lit 9223372036854775807)) false (catL la lb fun r => k (.s r)))
theorem opAdd_true {a b : V} (h : opAdd a b k = true) : ∃ v, apure (.bin .add (.c a) (.c b)) .leaf = some v ∧ k v = true := by
  replace h := asIS_true h; rcases h with ⟨ka, na, rfl, h⟩ | ⟨la, rfl, h⟩
  · replace h := asI_true h; obtain ⟨kb, nb, rfl, h⟩ := h
    replace h := eqK_true h; obtain ⟨rfl, h⟩ := h
    rw [addZ_eq, wrapZ_eq] at h
    exact ⟨_, by simp [apure, X.ev, binI], h⟩
  · replace h := asS_true h; obtain ⟨lb, rfl, h⟩ := h
    rw [lenL_eq, lenL_eq] at h
    replace h := iteB_f h; obtain ⟨h1, h⟩ := h
    rw [catL_eq] at h
    have h1 : la.length + lb.length ≤ 9223372036854775807 := Nat.le_of_ble_eq_true h1
    exact ⟨_, by simp only [apure, X.ev, binS]; rw [if_pos (by omega)], h⟩
def opSub (a b : V) (k : V → Bool) : Bool := asI a fun ka na => asI b fun kb nb => eqK ka kb (subZ na nb fun r => wrapZ ka r fun r => k (.i ka r))
theorem opSub_true {a b : V} (h : opSub a b k = true) : ∃ v, apure (.bin .sub (.c a) (.c b)) .leaf = some v ∧ k v = true := by
  replace h := asI_true h; obtain ⟨ka, na, rfl, h⟩ := h
  replace h := asI_true h; obtain ⟨kb, nb, rfl, h⟩ := h
  replace h := eqK_true h; obtain ⟨rfl, h⟩ := h
  rw [subZ_eq, wrapZ_eq] at h
  exact ⟨_, by simp [apure, X.ev, binI], h⟩
def opMul (a b : V) (k : V → Bool) : Bool := asI a fun ka na => asI b fun kb nb => eqK ka kb (mulZ na nb fun r => wrapZ ka r fun r => k (.i ka r))
theorem opMul_true {a b : V} (h : opMul a b k = true) : ∃ v, apure (.bin .mul (.c a) (.c b)) .leaf = some v ∧ k v = true := by
  replace h := asI_true h; obtain ⟨ka, na, rfl, h⟩ := h
  replace h := asI_true h; obtain ⟨kb, nb, rfl, h⟩ := h
  replace h := eqK_true h; obtain ⟨rfl, h⟩ := h
  rw [mulZ_eq, wrapZ_eq] at h
  exact ⟨_, by simp [apure, X.ev, binI], h⟩

/-- Two numbers that are not below 0; else another way. -/
def nats (a b : Int) (g : Nat → Nat → Bool) (e : Bool) : Bool := Int.rec (motive := fun _ => Bool) (fun m => Int.rec (motive := fun _ => Bool) (fun n => g m n) (fun _ => e) b) (fun _ => e) a
theorem nats_true {a b : Int} {g : Nat → Nat → Bool} {e : Bool} (h : nats a b g e = true) : (∃ m n : Nat, a = m ∧ b = n ∧ g m n = true) ∨ e = true := by
  cases a with
  | ofNat m => cases b with
    | ofNat n => exact .inl ⟨m, n, rfl, rfl, h⟩
    | negSucc n => exact .inr h
  | negSucc m => exact .inr h
def opQuo (a b : V) (k : V → Bool) : Bool := asI a fun ka na => asI b fun kb nb => nats na nb (fun m n => eqK ka kb (Nat.rec (motive := fun _ => Bool) false (fun _ _ => fN (Nat.div m n) fun r => wrapZ ka (Int.ofNat r) fun r => k (.i ka r)) n)) (opPure (.bin .quo (.c a) (.c b)) k)
theorem opQuo_true {a b : V} (h : opQuo a b k = true) : ∃ v, apure (.bin .quo (.c a) (.c b)) .leaf = some v ∧ k v = true := by
  replace h := asI_true h; obtain ⟨ka, na, rfl, h⟩ := h
  replace h := asI_true h; obtain ⟨kb, nb, rfl, h⟩ := h
  replace h := nats_true h; rcases h with ⟨m, n, rfl, rfl, h⟩ | h
  · replace h := eqK_true h; obtain ⟨rfl, h⟩ := h
    cases n with
    | zero => cases h
    | succ n =>
      have h : fN (m / (n + 1)) (fun r => wrapZ ka (Int.ofNat r) fun r => k (.i ka r)) = true := h
      rw [fN_eq, wrapZ_eq] at h
      refine ⟨_, ?_, h⟩
      simp only [apure, X.ev, binI, if_true]
      rw [if_neg (by omega)]
      rfl
  · exact opPure_true h
def opRem (a b : V) (k : V → Bool) : Bool := asI a fun ka na => asI b fun kb nb => nats na nb (fun m n => eqK ka kb (Nat.rec (motive := fun _ => Bool) false (fun _ _ => fN (Nat.mod m n) fun r => k (.i ka (Int.ofNat r))) n)) (opPure (.bin .rem (.c a) (.c b)) k)
theorem opRem_true {a b : V} (h : opRem a b k = true) : ∃ v, apure (.bin .rem (.c a) (.c b)) .leaf = some v ∧ k v = true := by
  replace h := asI_true h; obtain ⟨ka, na, rfl, h⟩ := h
  replace h := asI_true h; obtain ⟨kb, nb, rfl, h⟩ := h
  replace h := nats_true h; rcases h with ⟨m, n, rfl, rfl, h⟩ | h
  · replace h := eqK_true h; obtain ⟨rfl, h⟩ := h
    cases n with
    | zero => cases h
    | succ n =>
      have h : k (.i ka (Int.ofNat (m % (n + 1)))) = true := h
      refine ⟨_, ?_, h⟩
      simp only [apure, X.ev, binI, if_true]
      rw [if_neg (by omega)]
      rfl
  · exact opPure_true h

/-- Texts: alike? -/
def eqS1 (x : UInt8) (ih : List UInt8 → Bool) (f : Bool) (m : List UInt8) : Bool := List.rec (motive := fun _ => Bool) f (fun y r _ => iteB (Nat.beq x.toNat y.toNat) f (ih r)) m
def eqS (l m : List UInt8) (f t : Bool) : Bool := List.rec (motive := fun _ => List UInt8 → Bool) (fun m => List.rec (motive := fun _ => Bool) t (fun _ _ _ => f) m) (fun x _ ih m => eqS1 x ih f m) l m
theorem eqS_eq : ∀ (l m : List UInt8) (f t : Bool), eqS l m f t = if l = m then t else f
  | [], [], f, t => by simp [eqS]
  | [], y :: m, f, t => by simp [eqS]
  | x :: l, [], f, t => by simp [eqS, eqS1]
  | x :: l, y :: m, f, t => by
    show iteB (Nat.beq x.toNat y.toNat) f (eqS l m f t) = _
    rw [eqS_eq l m f t, iteB_eq]
    cases h : Nat.beq x.toNat y.toNat with
    | true =>
      have := UInt8.toNat_inj.1 (Nat.eq_of_beq_eq_true h)
      simp [this]
    | false =>
      have h2 : x ≠ y := fun e => Nat.ne_of_beq_eq_false h (by rw [e])
      simp [h2]
def opEql (a b : V) (k : V → Bool) : Bool := asIS a (fun ka na => asI b fun kb nb => eqK ka kb (eqZ na nb (k (.b false)) (k (.b true)))) (fun la => asS b fun lb => eqS la lb (k (.b false)) (k (.b true)))
theorem opEql_true {a b : V} (h : opEql a b k = true) : ∃ v, apure (.bin .eql (.c a) (.c b)) .leaf = some v ∧ k v = true := by
  replace h := asIS_true h; rcases h with ⟨ka, na, rfl, h⟩ | ⟨la, rfl, h⟩
  · replace h := asI_true h; obtain ⟨kb, nb, rfl, h⟩ := h
    replace h := eqK_true h; obtain ⟨rfl, h⟩ := h
    rw [eqZ_eq] at h
    refine ⟨.b (na == nb), by simp [apure, X.ev, binI], ?_⟩
    by_cases e : na = nb
    · rw [if_pos e] at h; simpa [e] using h
    · rw [if_neg e] at h; rw [beq_eq_false_iff_ne.2 e]; exact h
  · replace h := asS_true h; obtain ⟨lb, rfl, h⟩ := h
    rw [eqS_eq] at h
    refine ⟨.b (la == lb), by simp [apure, X.ev, binS], ?_⟩
    by_cases e : la = lb
    · rw [if_pos e] at h; simpa [e] using h
    · rw [if_neg e] at h; rw [beq_eq_false_iff_ne.2 e]; exact h
def opNeq (a b : V) (k : V → Bool) : Bool := asIS a (fun ka na => asI b fun kb nb => eqK ka kb (eqZ na nb (k (.b true)) (k (.b false)))) (fun la => asS b fun lb => eqS la lb (k (.b true)) (k (.b false)))
theorem opNeq_true {a b : V} (h : opNeq a b k = true) : ∃ v, apure (.bin .neq (.c a) (.c b)) .leaf = some v ∧ k v = true := by
  replace h := asIS_true h; rcases h with ⟨ka, na, rfl, h⟩ | ⟨la, rfl, h⟩
  · replace h := asI_true h; obtain ⟨kb, nb, rfl, h⟩ := h
    replace h := eqK_true h; obtain ⟨rfl, h⟩ := h
    rw [eqZ_eq] at h
    refine ⟨.b (na != nb), by simp [apure, X.ev, binI], ?_⟩
    by_cases e : na = nb
    · rw [if_pos e] at h; simpa [e] using h
    · rw [if_neg e] at h; rw [bne, beq_eq_false_iff_ne.2 e]; exact h
  · replace h := asS_true h; obtain ⟨lb, rfl, h⟩ := h
    rw [eqS_eq] at h
    refine ⟨.b (!(la == lb)), by simp [apure, X.ev, binS], ?_⟩
    by_cases e : la = lb
    · rw [if_pos e] at h; simpa [e] using h
    · rw [if_neg e] at h; rw [beq_eq_false_iff_ne.2 e]; exact h
def opLss (a b : V) (k : V → Bool) : Bool := asIS a (fun ka na => asI b fun kb nb => eqK ka kb (ltZ na nb (k (.b false)) (k (.b true)))) (fun _ => opPure (.bin .lss (.c a) (.c b)) k)
def opLeq (a b : V) (k : V → Bool) : Bool := asIS a (fun ka na => asI b fun kb nb => eqK ka kb (ltZ nb na (k (.b true)) (k (.b false)))) (fun _ => opPure (.bin .leq (.c a) (.c b)) k)
def opGtr (a b : V) (k : V → Bool) : Bool := asIS a (fun ka na => asI b fun kb nb => eqK ka kb (ltZ nb na (k (.b false)) (k (.b true)))) (fun _ => opPure (.bin .gtr (.c a) (.c b)) k)
def opGeq (a b : V) (k : V → Bool) : Bool := asIS a (fun ka na => asI b fun kb nb => eqK ka kb (ltZ na nb (k (.b true)) (k (.b false)))) (fun _ => opPure (.bin .geq (.c a) (.c b)) k)
theorem opLss_true {a b : V} (h : opLss a b k = true) : ∃ v, apure (.bin .lss (.c a) (.c b)) .leaf = some v ∧ k v = true := by
  replace h := asIS_true h; rcases h with ⟨ka, na, rfl, h⟩ | ⟨la, rfl, h⟩
  · replace h := asI_true h; obtain ⟨kb, nb, rfl, h⟩ := h
    replace h := eqK_true h; obtain ⟨rfl, h⟩ := h
    rw [ltZ_eq] at h
    refine ⟨.b (decide (na < nb)), by simp [apure, X.ev, binI], ?_⟩
    by_cases e : na < nb
    · rw [if_pos e] at h; rw [decide_eq_true e]; exact h
    · rw [if_neg e] at h; rw [decide_eq_false e]; exact h
  · exact opPure_true h
theorem opLeq_true {a b : V} (h : opLeq a b k = true) : ∃ v, apure (.bin .leq (.c a) (.c b)) .leaf = some v ∧ k v = true := by
  replace h := asIS_true h; rcases h with ⟨ka, na, rfl, h⟩ | ⟨la, rfl, h⟩
  · replace h := asI_true h; obtain ⟨kb, nb, rfl, h⟩ := h
    replace h := eqK_true h; obtain ⟨rfl, h⟩ := h
    rw [ltZ_eq] at h
    refine ⟨.b (decide (na ≤ nb)), by simp [apure, X.ev, binI], ?_⟩
    by_cases e : nb < na
    · rw [if_pos e] at h; rw [decide_eq_false (by omega)]; exact h
    · rw [if_neg e] at h; rw [decide_eq_true (by omega)]; exact h
  · exact opPure_true h
theorem opGtr_true {a b : V} (h : opGtr a b k = true) : ∃ v, apure (.bin .gtr (.c a) (.c b)) .leaf = some v ∧ k v = true := by
  replace h := asIS_true h; rcases h with ⟨ka, na, rfl, h⟩ | ⟨la, rfl, h⟩
  · replace h := asI_true h; obtain ⟨kb, nb, rfl, h⟩ := h
    replace h := eqK_true h; obtain ⟨rfl, h⟩ := h
    rw [ltZ_eq] at h
    refine ⟨.b (decide (na > nb)), by simp [apure, X.ev, binI], ?_⟩
    by_cases e : nb < na
    · rw [if_pos e] at h; rw [decide_eq_true (by omega)]; exact h
    · rw [if_neg e] at h; rw [decide_eq_false (by omega)]; exact h
  · exact opPure_true h
theorem opGeq_true {a b : V} (h : opGeq a b k = true) : ∃ v, apure (.bin .geq (.c a) (.c b)) .leaf = some v ∧ k v = true := by
  replace h := asIS_true h; rcases h with ⟨ka, na, rfl, h⟩ | ⟨la, rfl, h⟩
  · replace h := asI_true h; obtain ⟨kb, nb, rfl, h⟩ := h
    replace h := eqK_true h; obtain ⟨rfl, h⟩ := h
    rw [ltZ_eq] at h
    refine ⟨.b (decide (na ≥ nb)), by simp [apure, X.ev, binI], ?_⟩
    by_cases e : na < nb
    · rw [if_pos e] at h; rw [decide_eq_false (by omega)]; exact h
    · rw [if_neg e] at h; rw [decide_eq_true (by omega)]; exact h
  · exact opPure_true h

/-- How many values a kind has. -/
def kB (k : IntKind) : Nat := IntKind.rec (motive := fun _ => Nat) (nat_lit 8) (nat_lit 16) (nat_lit 32) (nat_lit 64) (nat_lit 8) (nat_lit 16) (nat_lit 32) (nat_lit 64) k
theorem kB_eq (k : IntKind) : kB k = k.bits := by cases k <;> rfl
def inB (ka : IntKind) (m n : Nat) (g e : Bool) : Bool := fN (Nat.pow (nat_lit 2) (kB ka)) fun M => iteB (Nat.ble (Nat.succ m) M) e (iteB (Nat.ble (Nat.succ n) M) e g)
theorem inB_true {ka : IntKind} {m n : Nat} {g e : Bool} (h : inB ka m n g e = true) : (m < 2 ^ ka.bits ∧ n < 2 ^ ka.bits ∧ g = true) ∨ e = true := by
  unfold inB at h
  rw [fN_eq, kB_eq] at h
  replace h := iteB_true h; rcases h with ⟨h1, h⟩ | ⟨_, h⟩
  · replace h := iteB_true h; rcases h with ⟨h2, h⟩ | ⟨_, h⟩
    · exact .inl ⟨Nat.le_of_ble_eq_true h1, Nat.le_of_ble_eq_true h2, h⟩
    · exact .inr h
  · exact .inr h
theorem ofInt_nat {w m : Nat} (h : m < 2 ^ w) : (BitVec.ofInt w (m : Int)).toNat = m := by
  rw [BitVec.toNat_ofInt, show ((m : Int) % ((2 ^ w : Nat) : Int)) = ((m % 2 ^ w : Nat) : Int) from rfl, Int.toNat_natCast, Nat.mod_eq_of_lt h]
def opAnd (a b : V) (k : V → Bool) : Bool := asI a fun ka na => asI b fun kb nb => nats na nb (fun m n => eqK ka kb (inB ka m n (fN (Nat.land m n) fun r => wrapZ ka (Int.ofNat r) fun r => k (.i ka r)) (opPure (.bin .and (.c a) (.c b)) k))) (opPure (.bin .and (.c a) (.c b)) k)
theorem opAnd_true {a b : V} (h : opAnd a b k = true) : ∃ v, apure (.bin .and (.c a) (.c b)) .leaf = some v ∧ k v = true := by
  replace h := asI_true h; obtain ⟨ka, na, rfl, h⟩ := h
  replace h := asI_true h; obtain ⟨kb, nb, rfl, h⟩ := h
  replace h := nats_true h; rcases h with ⟨m, n, rfl, rfl, h⟩ | h
  · replace h := eqK_true h; obtain ⟨rfl, h⟩ := h
    replace h := inB_true h; rcases h with ⟨h1, h2, h⟩ | h
    · rw [fN_eq, wrapZ_eq] at h
      refine ⟨_, ?_, h⟩
      simp only [apure, X.ev, binI, if_true]
      rw [BitVec.toNat_and, ofInt_nat h1, ofInt_nat h2]
      rfl
    · exact opPure_true h
  · exact opPure_true h
def opOr (a b : V) (k : V → Bool) : Bool := asI a fun ka na => asI b fun kb nb => nats na nb (fun m n => eqK ka kb (inB ka m n (fN (Nat.lor m n) fun r => wrapZ ka (Int.ofNat r) fun r => k (.i ka r)) (opPure (.bin .or (.c a) (.c b)) k))) (opPure (.bin .or (.c a) (.c b)) k)
theorem opOr_true {a b : V} (h : opOr a b k = true) : ∃ v, apure (.bin .or (.c a) (.c b)) .leaf = some v ∧ k v = true := by
  replace h := asI_true h; obtain ⟨ka, na, rfl, h⟩ := h
  replace h := asI_true h; obtain ⟨kb, nb, rfl, h⟩ := h
  replace h := nats_true h; rcases h with ⟨m, n, rfl, rfl, h⟩ | h
  · replace h := eqK_true h; obtain ⟨rfl, h⟩ := h
    replace h := inB_true h; rcases h with ⟨h1, h2, h⟩ | h
    · rw [fN_eq, wrapZ_eq] at h
      refine ⟨_, ?_, h⟩
      simp only [apure, X.ev, binI, if_true]
      rw [BitVec.toNat_or, ofInt_nat h1, ofInt_nat h2]
      rfl
    · exact opPure_true h
  · exact opPure_true h
def minN (m n : Nat) (K : Nat → Bool) : Bool := iteB (Nat.ble m n) (K n) (K m)
theorem minN_eq (m n : Nat) (K : Nat → Bool) : minN m n K = K (min m n) := by
  unfold minN
  rw [iteB_eq]
  rcases ble_tf m n with ⟨h1, h2⟩ | ⟨h1, h2⟩
  · rw [h1, Nat.min_eq_left h2]
  · rw [h1, Nat.min_eq_right (by omega)]
def opShl (a b : V) (k : V → Bool) : Bool := asI a fun ka na => asI b fun _ nb => Int.rec (motive := fun _ => Bool) (fun m => minN m (kB ka) fun j => fN (Nat.pow (nat_lit 2) j) fun p => mulZ na (Int.ofNat p) fun r => wrapZ ka r fun r => k (.i ka r)) (fun _ => false) nb
theorem opShl_true {a b : V} (h : opShl a b k = true) : ∃ v, apure (.bin .shl (.c a) (.c b)) .leaf = some v ∧ k v = true := by
  replace h := asI_true h; obtain ⟨ka, na, rfl, h⟩ := h
  replace h := asI_true h; obtain ⟨kb, nb, rfl, h⟩ := h
  cases nb with
  | negSucc n => cases h
  | ofNat m =>
    have h : minN m (kB ka) (fun j => fN (2 ^ j) fun p => mulZ na (Int.ofNat p) fun r => wrapZ ka r fun r => k (.i ka r)) = true := h
    rw [minN_eq, fN_eq, mulZ_eq, wrapZ_eq, kB_eq] at h
    refine ⟨_, ?_, h⟩
    simp only [apure, X.ev]
    rw [if_neg (by show ¬ (m : Int) < 0; omega)]
    have e : ((2 ^ (min m ka.bits) : Nat) : Int) = 2 ^ (min m ka.bits) := by simp
    rw [show (Int.ofNat m).toNat = m from rfl, ← e]
    rfl
def opShr (a b : V) (k : V → Bool) : Bool := asI a fun ka na => asI b fun _ nb => nats na nb (fun m n => minN n (kB ka) fun j => fN (Nat.div m (Nat.pow (nat_lit 2) j)) fun r => k (.i ka (Int.ofNat r))) (opPure (.bin .shr (.c a) (.c b)) k)
theorem opShr_true {a b : V} (h : opShr a b k = true) : ∃ v, apure (.bin .shr (.c a) (.c b)) .leaf = some v ∧ k v = true := by
  replace h := asI_true h; obtain ⟨ka, na, rfl, h⟩ := h
  replace h := asI_true h; obtain ⟨kb, nb, rfl, h⟩ := h
  replace h := nats_true h; rcases h with ⟨m, n, rfl, rfl, h⟩ | h
  · rw [minN_eq, fN_eq, kB_eq] at h
    refine ⟨_, ?_, h⟩
    simp only [apure, X.ev]
    rw [if_neg (by omega)]
    have e : ((2 ^ (min n ka.bits) : Nat) : Int) = 2 ^ (min n ka.bits) := by simp
    rw [Int.toNat_natCast, ← e, ← Int.ofNat_fdiv]
    rfl
  · exact opPure_true h
end
end Ram
