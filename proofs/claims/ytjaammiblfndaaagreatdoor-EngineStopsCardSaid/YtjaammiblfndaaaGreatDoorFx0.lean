/- A part of the proof: contracts of functions, over the abstract machine. -/
import Derived.Test.YtjaammiblfndaaaGreatDoorEvF
set_option linter.unusedVariables false
set_option linter.unusedSimpArgs false
set_option linter.all false
/- Words for runs that the kernel reckons fast: numbers, truth values, what a value is. -/
namespace Ram
open Go
noncomputable section

/-- One of two, by a truth value. -/
def iteB (b f t : Bool) : Bool := Bool.rec (motive := fun _ => Bool) f t b
theorem iteB_eq (b f t : Bool) : iteB b f t = (match b with | true => t | false => f) := by cases b <;> rfl
theorem iteB_true {b f t : Bool} (h : iteB b f t = true) : (b = true ∧ t = true) ∨ (b = false ∧ f = true) := by cases b; exact .inr ⟨rfl, h⟩; exact .inl ⟨rfl, h⟩
theorem iteB_f {b t : Bool} (h : iteB b false t = true) : b = true ∧ t = true := by
  rcases iteB_true h with h | h
  · exact h
  · cases h.2

/-- A number, worked out. -/
def fN (n : Nat) (k : Nat → Bool) : Bool := Nat.rec (motive := fun _ => Bool) false (fun m _ => k m) (Nat.succ n)
theorem fN_eq (n : Nat) (k : Nat → Bool) : fN n k = k n := rfl
def fZ (n : Int) (k : Int → Bool) : Bool := Int.rec (motive := fun _ => Bool) (fun m => fN m fun m => k (Int.ofNat m)) (fun m => fN m fun m => k (Int.negSucc m)) n
theorem fZ_eq (n : Int) (k : Int → Bool) : fZ n k = k n := by cases n <;> rfl

def subN (m n : Nat) (k : Int → Bool) : Bool := iteB (Nat.ble n m) (fN (Nat.pred (Nat.sub n m)) fun r => k (Int.negSucc r)) (fN (Nat.sub m n) fun r => k (Int.ofNat r))
theorem subN_eq (m n : Nat) (k : Int → Bool) : subN m n k = k ((m : Int) - n) := by
  unfold subN
  rw [iteB_eq]
  cases h : Nat.ble n m with
  | true =>
    have := Nat.le_of_ble_eq_true h
    simp only [fN_eq]
    congr 1
    show ((m - n : Nat) : Int) = _
    omega
  | false =>
    have : ¬ n ≤ m := fun hh => by rw [Nat.ble_eq_true_of_le hh] at h; cases h
    simp only [fN_eq]
    congr 1
    show Int.negSucc (n - m - 1) = _
    omega
def addZ (a b : Int) (k : Int → Bool) : Bool :=
  Int.rec (motive := fun _ => Bool)
    (fun m => Int.rec (motive := fun _ => Bool) (fun n => fN (Nat.add m n) fun r => k (Int.ofNat r)) (fun n => subN m (Nat.succ n) k) b)
    (fun m => Int.rec (motive := fun _ => Bool) (fun n => subN n (Nat.succ m) k) (fun n => fN (Nat.succ (Nat.add m n)) fun r => k (Int.negSucc r)) b) a
theorem addZ_eq (a b : Int) (k : Int → Bool) : addZ a b k = k (a + b) := by
  cases a with
  | ofNat m => cases b with
    | ofNat n => rfl
    | negSucc n => show subN m (n + 1) k = _; rw [subN_eq]; exact congrArg k (by show (m : Int) - ((n + 1 : Nat) : Int) = (m : Int) + Int.negSucc n; omega)
  | negSucc m => cases b with
    | ofNat n => show subN n (m + 1) k = _; rw [subN_eq]; exact congrArg k (by show (n : Int) - ((m + 1 : Nat) : Int) = Int.negSucc m + (n : Int); omega)
    | negSucc n => rfl
def subZ (a b : Int) (k : Int → Bool) : Bool :=
  Int.rec (motive := fun _ => Bool)
    (fun m => Int.rec (motive := fun _ => Bool) (fun n => subN m n k) (fun n => fN (Nat.succ (Nat.add m n)) fun r => k (Int.ofNat r)) b)
    (fun m => Int.rec (motive := fun _ => Bool) (fun n => fN (Nat.add m n) fun r => k (Int.negSucc r)) (fun n => subN n m k) b) a
theorem subZ_eq (a b : Int) (k : Int → Bool) : subZ a b k = k (a - b) := by
  cases a with
  | ofNat m => cases b with
    | ofNat n => exact subN_eq m n k
    | negSucc n => show k (Int.ofNat (m + n + 1)) = _; exact congrArg k (by show ((m + n + 1 : Nat) : Int) = (m : Int) - Int.negSucc n; omega)
  | negSucc m => cases b with
    | ofNat n => show k (Int.negSucc (m + n)) = _; exact congrArg k (by show Int.negSucc (m + n) = Int.negSucc m - (n : Int); omega)
    | negSucc n => show subN n m k = _; rw [subN_eq]; exact congrArg k (by omega)
def mulZ (a b : Int) (k : Int → Bool) : Bool :=
  Int.rec (motive := fun _ => Bool)
    (fun m => Int.rec (motive := fun _ => Bool) (fun n => fN (Nat.mul m n) fun r => k (Int.ofNat r)) (fun _ => fZ (a * b) k) b)
    (fun _ => fZ (a * b) k) a
theorem mulZ_eq (a b : Int) (k : Int → Bool) : mulZ a b k = k (a * b) := by
  cases a with
  | ofNat m => cases b with
    | ofNat n => show k (Int.ofNat (m * n)) = _; congr 1
    | negSucc n => exact fZ_eq _ k
  | negSucc m => exact fZ_eq _ k

/-- Is a number less, at most, equal? -/
def ltZ (a b : Int) (f t : Bool) : Bool :=
  Int.rec (motive := fun _ => Bool)
    (fun m => Int.rec (motive := fun _ => Bool) (fun n => iteB (Nat.ble (Nat.succ m) n) f t) (fun _ => f) b)
    (fun m => Int.rec (motive := fun _ => Bool) (fun _ => t) (fun n => iteB (Nat.ble (Nat.succ n) m) f t) b) a
theorem ltZ_eq (a b : Int) (f t : Bool) : ltZ a b f t = if a < b then t else f := by
  cases a with
  | ofNat m => cases b with
    | ofNat n =>
      show iteB (Nat.ble (m + 1) n) f t = _
      rw [iteB_eq]
      cases h : Nat.ble (m + 1) n with
      | true => have := Nat.le_of_ble_eq_true h; rw [if_pos (show Int.ofNat m < Int.ofNat n by show (m : Int) < n; omega)]
      | false => have : ¬ m + 1 ≤ n := fun hh => by rw [Nat.ble_eq_true_of_le hh] at h; cases h
                 rw [if_neg (show ¬ Int.ofNat m < Int.ofNat n by show ¬ (m : Int) < n; omega)]
    | negSucc n => show f = _; rw [if_neg (show ¬ Int.ofNat m < Int.negSucc n by show ¬ (m : Int) < Int.negSucc n; omega)]
  | negSucc m => cases b with
    | ofNat n => show t = _; rw [if_pos (show Int.negSucc m < Int.ofNat n by show Int.negSucc m < (n : Int); omega)]
    | negSucc n =>
      show iteB (Nat.ble (n + 1) m) f t = _
      rw [iteB_eq]
      cases h : Nat.ble (n + 1) m with
      | true => have := Nat.le_of_ble_eq_true h; rw [if_pos (by omega)]
      | false => have : ¬ n + 1 ≤ m := fun hh => by rw [Nat.ble_eq_true_of_le hh] at h; cases h
                 rw [if_neg (by omega)]
def eqZ (a b : Int) (f t : Bool) : Bool :=
  Int.rec (motive := fun _ => Bool)
    (fun m => Int.rec (motive := fun _ => Bool) (fun n => iteB (Nat.beq m n) f t) (fun _ => f) b)
    (fun m => Int.rec (motive := fun _ => Bool) (fun _ => f) (fun n => iteB (Nat.beq m n) f t) b) a
theorem eqZ_eq (a b : Int) (f t : Bool) : eqZ a b f t = if a = b then t else f := by
  cases a with
  | ofNat m => cases b with
    | ofNat n =>
      show iteB (Nat.beq m n) f t = _
      rw [iteB_eq]
      cases h : Nat.beq m n with
      | true => have := Nat.eq_of_beq_eq_true h; rw [if_pos (by rw [this])]
      | false => have := Nat.ne_of_beq_eq_false h
                 rw [if_neg (fun e => this (Int.ofNat.inj e))]
    | negSucc n => show f = _; rw [if_neg (by intro h; cases h)]
  | negSucc m => cases b with
    | ofNat n => show f = _; rw [if_neg (by intro h; cases h)]
    | negSucc n =>
      show iteB (Nat.beq m n) f t = _
      rw [iteB_eq]
      cases h : Nat.beq m n with
      | true => have := Nat.eq_of_beq_eq_true h; rw [if_pos (by rw [this])]
      | false => have := Nat.ne_of_beq_eq_false h
                 rw [if_neg (fun e => this (Int.negSucc.inj e))]

/-- Two kinds alike? -/
def kN (k : IntKind) : Nat := IntKind.rec (motive := fun _ => Nat) (nat_lit 0) (nat_lit 1) (nat_lit 2) (nat_lit 3) (nat_lit 4) (nat_lit 5) (nat_lit 6) (nat_lit 7) k
theorem kN_inj {a b : IntKind} (h : kN a = kN b) : a = b := by cases a <;> cases b <;> first | rfl | (cases h; done)
def eqK (a b : IntKind) (t : Bool) : Bool := iteB (Nat.beq (kN a) (kN b)) false t
theorem eqK_true {a b : IntKind} {t : Bool} (h : eqK a b t = true) : a = b ∧ t = true := by
  have h := iteB_f h
  exact ⟨kN_inj (Nat.eq_of_beq_eq_true h.1), h.2⟩

/-- A number as one of its kind. -/
def wS (kd : IntKind) (B : Nat) (n : Int) (k : Int → Bool) : Bool :=
  Int.rec (motive := fun _ => Bool) (fun m => iteB (Nat.ble (Nat.succ m) B) (fZ (wrapF kd n) k) (k (Int.ofNat m))) (fun m => iteB (Nat.ble (Nat.succ m) B) (fZ (wrapF kd n) k) (k (Int.negSucc m))) n
def wU (kd : IntKind) (M : Nat) (n : Int) (k : Int → Bool) : Bool :=
  Int.rec (motive := fun _ => Bool) (fun m => iteB (Nat.ble (Nat.succ m) M) (fN (Nat.mod m M) fun r => k (Int.ofNat r)) (k (Int.ofNat m))) (fun _ => fZ (wrapF kd n) k) n
def wrapZ (kd : IntKind) (n : Int) (k : Int → Bool) : Bool :=
  IntKind.rec (motive := fun _ => Bool) (wS .i8 (nat_lit 128) n k) (wS .i16 (nat_lit 32768) n k) (wS .i32 (nat_lit 2147483648) n k) (wS .i64 (nat_lit 9223372036854775808) n k)
    (wU .u8 (nat_lit 256) n k) (wU .u16 (nat_lit 65536) n k) (wU .u32 (nat_lit 4294967296) n k) (wU .u64 (nat_lit 18446744073709551616) n k) kd
theorem ble_tf (m n : Nat) : (Nat.ble m n = true ∧ m ≤ n) ∨ (Nat.ble m n = false ∧ ¬ m ≤ n) := by
  cases h : Nat.ble m n with
  | true => exact .inl ⟨rfl, Nat.le_of_ble_eq_true h⟩
  | false => exact .inr ⟨rfl, fun hh => by rw [Nat.ble_eq_true_of_le hh] at h; cases h⟩
theorem wS_eq {kd : IntKind} {B : Nat} (h : ∀ n : Int, -(B : Int) ≤ n → n < B → kd.wrap n = n) (n : Int) (k : Int → Bool) : wS kd B n k = k (kd.wrap n) := by
  unfold wS
  cases n with
  | ofNat m =>
    rcases ble_tf (m + 1) B with ⟨h1, h2⟩ | ⟨h1, h2⟩
    · show iteB (Nat.ble (m + 1) B) _ _ = _
      rw [iteB_eq, h1, h _ (by show -(B : Int) ≤ (m : Int); omega) (by show (m : Int) < B; omega)]
    · show iteB (Nat.ble (m + 1) B) _ _ = _
      rw [iteB_eq, h1, fZ_eq, wrapF_eq]
  | negSucc m =>
    rcases ble_tf (m + 1) B with ⟨h1, h2⟩ | ⟨h1, h2⟩
    · show iteB (Nat.ble (m + 1) B) _ _ = _
      rw [iteB_eq, h1, h _ (by omega) (by omega)]
    · show iteB (Nat.ble (m + 1) B) _ _ = _
      rw [iteB_eq, h1, fZ_eq, wrapF_eq]
theorem wU_eq {kd : IntKind} {M : Nat} (h : ∀ n : Int, kd.wrap n = n % M) (n : Int) (k : Int → Bool) : wU kd M n k = k (kd.wrap n) := by
  unfold wU
  cases n with
  | ofNat m =>
    rcases ble_tf (m + 1) M with ⟨h1, h2⟩ | ⟨h1, h2⟩
    · show iteB (Nat.ble (m + 1) M) _ _ = _
      rw [iteB_eq, h1, h]
      show k (Int.ofNat m) = k ((m : Int) % M)
      exact congrArg k (Int.emod_eq_of_lt (a := (m : Int)) (by omega) (by omega)).symm
    · show iteB (Nat.ble (m + 1) M) _ _ = _
      rw [iteB_eq, h1, h]
      rfl
  | negSucc m => show fZ _ k = _; rw [fZ_eq, wrapF_eq]
theorem wrapZ_eq (kd : IntKind) (n : Int) (k : Int → Bool) : wrapZ kd n k = k (kd.wrap n) := by
  cases kd
  · exact wS_eq (fun n (h1 : -(128 : Int) ≤ n) (h2 : n < (128 : Int)) => by simp [IntKind.wrap, IntKind.signed, IntKind.bits]; omega) n k
  · exact wS_eq (fun n (h1 : -(32768 : Int) ≤ n) (h2 : n < (32768 : Int)) => by simp [IntKind.wrap, IntKind.signed, IntKind.bits]; omega) n k
  · exact wS_eq (fun n (h1 : -(2147483648 : Int) ≤ n) (h2 : n < (2147483648 : Int)) => by simp [IntKind.wrap, IntKind.signed, IntKind.bits]; omega) n k
  · exact wS_eq (fun n (h1 : -(9223372036854775808 : Int) ≤ n) (h2 : n < (9223372036854775808 : Int)) => by simp [IntKind.wrap, IntKind.signed, IntKind.bits]; omega) n k
  · exact wU_eq (fun n => by simp [IntKind.wrap, IntKind.signed, IntKind.bits]) n k
  · exact wU_eq (fun n => by simp [IntKind.wrap, IntKind.signed, IntKind.bits]) n k
  · exact wU_eq (fun n => by simp [IntKind.wrap, IntKind.signed, IntKind.bits]) n k
  · exact wU_eq (fun n => by simp [IntKind.wrap, IntKind.signed, IntKind.bits]) n k

/-- What a value is. -/
def asI (v : V) (g : IntKind → Int → Bool) : Bool := V.rec (motive_1 := fun _ => Bool) (motive_2 := fun _ => Bool) (fun _ => false) (fun k n => g k n) (fun _ => false) (fun _ => false) (fun _ _ _ _ => false) (fun _ => false) (fun _ _ _ _ _ => false) false (fun _ _ _ => false) false (fun _ _ => false) (fun _ _ => false) false (fun _ _ _ _ => false) v
def asB (v : V) (g : Bool → Bool) : Bool := V.rec (motive_1 := fun _ => Bool) (motive_2 := fun _ => Bool) (fun b => g b) (fun _ _ => false) (fun _ => false) (fun _ => false) (fun _ _ _ _ => false) (fun _ => false) (fun _ _ _ _ _ => false) false (fun _ _ _ => false) false (fun _ _ => false) (fun _ _ => false) false (fun _ _ _ _ => false) v
def asS (v : V) (g : List UInt8 → Bool) : Bool := V.rec (motive_1 := fun _ => Bool) (motive_2 := fun _ => Bool) (fun _ => false) (fun _ _ => false) (fun l => g l) (fun _ => false) (fun _ _ _ _ => false) (fun _ => false) (fun _ _ _ _ _ => false) false (fun _ _ _ => false) false (fun _ _ => false) (fun _ _ => false) false (fun _ _ _ _ => false) v
def asP (v : V) (g : Nat → Nat → Bool) : Bool := V.rec (motive_1 := fun _ => Bool) (motive_2 := fun _ => Bool) (fun _ => false) (fun _ _ => false) (fun _ => false) (fun a => Option.rec (motive := fun _ => Bool) false (fun p => Prod.rec (motive := fun _ => Bool) (fun i o => g i o) p) a) (fun _ _ _ _ => false) (fun _ => false) (fun _ _ _ _ _ => false) false (fun _ _ _ => false) false (fun _ _ => false) (fun _ _ => false) false (fun _ _ _ _ => false) v
def asSl (v : V) (g : Nat → Option (Nat × Nat) → Nat → Nat → Bool) : Bool := V.rec (motive_1 := fun _ => Bool) (motive_2 := fun _ => Bool) (fun _ => false) (fun _ _ => false) (fun _ => false) (fun _ => false) (fun e a l c => g e a l c) (fun _ => false) (fun _ _ _ _ _ => false) false (fun _ _ _ => false) false (fun _ _ => false) (fun _ _ => false) false (fun _ _ _ _ => false) v
def asTup (v : V) (g : List V → Bool) : Bool := V.rec (motive_1 := fun _ => Bool) (motive_2 := fun _ => Bool) (fun _ => false) (fun _ _ => false) (fun _ => false) (fun _ => false) (fun _ _ _ _ => false) (fun _ => false) (fun _ _ _ _ _ => false) false (fun _ _ _ => false) false (fun _ _ => false) (fun l _ => g l) false (fun _ _ _ _ => false) v
def asAgg (v : V) (g : List V → Bool) : Bool := V.rec (motive_1 := fun _ => Bool) (motive_2 := fun _ => Bool) (fun _ => false) (fun _ _ => false) (fun _ => false) (fun _ => false) (fun _ _ _ _ => false) (fun _ => false) (fun _ _ _ _ _ => false) false (fun _ _ _ => false) false (fun l _ => g l) (fun _ _ => false) false (fun _ _ _ _ => false) v
/-- Its cells. -/
def fCells (v : V) (g : List V → Bool) : Bool := V.rec (motive_1 := fun _ => Bool) (motive_2 := fun _ => Bool) (fun _ => g [v]) (fun _ _ => g [v]) (fun _ => g [v]) (fun _ => g [v]) (fun _ _ _ _ => g [v]) (fun _ => g [v]) (fun _ _ _ _ _ => g [v]) (g [v]) (fun _ _ _ => g [v]) (g [v]) (fun l _ => g l) (fun _ _ => g [v]) false (fun _ _ _ _ => false) v

theorem asI_true {v : V} {g : IntKind → Int → Bool} (h : asI v g = true) : ∃ k n, v = .i k n ∧ g k n = true := by
  cases v <;> first | exact ⟨_, _, rfl, h⟩ | (cases h; done)
theorem asB_true {v : V} {g : Bool → Bool} (h : asB v g = true) : ∃ b, v = .b b ∧ g b = true := by
  cases v <;> first | exact ⟨_, rfl, h⟩ | (cases h; done)
theorem asS_true {v : V} {g : List UInt8 → Bool} (h : asS v g = true) : ∃ l, v = .s l ∧ g l = true := by
  cases v <;> first | exact ⟨_, rfl, h⟩ | (cases h; done)
theorem asP_true {v : V} {g : Nat → Nat → Bool} (h : asP v g = true) : ∃ i o, v = .p (some (i, o)) ∧ g i o = true := by
  cases v with
  | p a => cases a with
    | none => cases h
    | some p => exact ⟨p.1, p.2, rfl, h⟩
  | _ => cases h
theorem asSl_true {v : V} {g : Nat → Option (Nat × Nat) → Nat → Nat → Bool} (h : asSl v g = true) : ∃ e a l c, v = .sl e a l c ∧ g e a l c = true := by
  cases v <;> first | exact ⟨_, _, _, _, rfl, h⟩ | (cases h; done)
theorem asTup_true {v : V} {g : List V → Bool} (h : asTup v g = true) : ∃ l, v = .tup l ∧ g l = true := by
  cases v <;> first | exact ⟨_, rfl, h⟩ | (cases h; done)
theorem asAgg_true {v : V} {g : List V → Bool} (h : asAgg v g = true) : ∃ l, v = .agg l ∧ g l = true := by
  cases v <;> first | exact ⟨_, rfl, h⟩ | (cases h; done)
theorem fCells_eq (v : V) (g : List V → Bool) : fCells v g = g v.cells := by cases v <;> rfl
end
end Ram
