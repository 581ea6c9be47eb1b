/- A part of the proof: contracts of functions, over the abstract machine. -/
import Derived.Test.YtjaammiblfndaaaGreatDoorFxl
import Derived.Test.YtjaammiblfndaaaGreatDoorRbe
set_option linter.unusedVariables false
set_option linter.unusedSimpArgs false
set_option linter.all false
/- strings.Builder's methods, as runs. -/
namespace Ram
open Go Go.Shelf Go.Proofs
noncomputable section
variable {P : Program} {ρ ρ' : Ren} {g : FuncId}
/-- What a builder holds. -/
def getB (T e : TypeId) (H : AH) (i : Nat) (K : Option Nat → List UInt8 → Bool) : Bool := getH H i fun o => match o with
  | .bld T' none 0 => iteB (Nat.beq T' T) false (K none [])
  | .bld T' (some j) n => iteB (Nat.beq T' T) false (getH H j fun u => match u with
    | .bbuf e' (c :: l) => iteB (Nat.beq e' e) false (iteB (Nat.beq (lenN (c :: l)) n) false (K (some j) (c :: l)))
    | _ => false)
  | _ => false
theorem getB_true {T e : TypeId} {H : AH} {i : Nat} {K : Option Nat → List UInt8 → Bool} (h : getB T e H i K = true) : ∃ r l, IsB H i T e r l ∧ (r ≠ none → l ≠ []) ∧ K r l = true := by
  replace h := getH_true h; obtain ⟨o, h1, h⟩ := h
  split at h
  · replace h := iteB_f h; obtain ⟨h2, h⟩ := h
    have h2 := Nat.eq_of_beq_eq_true h2; subst h2
    exact ⟨none, [], ⟨h1, fun j hj => (by cases hj), fun _ => rfl⟩, fun h => absurd rfl h, h⟩
  · next T' j n =>
    replace h := iteB_f h; obtain ⟨h2, h⟩ := h
    have h2 := Nat.eq_of_beq_eq_true h2; subst h2
    replace h := getH_true h; obtain ⟨u, h3, h⟩ := h
    split at h
    · next e' c l =>
      replace h := iteB_f h; obtain ⟨h4, h⟩ := h
      have h4 := Nat.eq_of_beq_eq_true h4; subst h4
      replace h := iteB_f h; obtain ⟨h5, h⟩ := h
      have h5 := Nat.eq_of_beq_eq_true h5
      rw [lenN_eq] at h5
      refine ⟨some j, c :: l, ⟨by rw [h1, h5], fun j' hj => ?_, fun h => by cases h⟩, fun _ => by simp, h⟩
      obtain rfl := Option.some.inj hj
      exact h3
    · cases h
  · cases h
def killB (H : AH) (r : Option Nat) (K : AH → Bool) : Bool := match r with
  | none => K H
  | some j => setH H j .dead K
theorem killB_true {H : AH} {r : Option Nat} {K : AH → Bool} (h : killB H r K = true) : K (bkill H r) = true := by
  cases r with
  | none => exact h
  | some j => exact setH_true h
def putB (T e : TypeId) (H : AH) (i : Nat) (r : Option Nat) (l : List UInt8) (K : AH → Bool) : Bool := match l with
  | [] => setH H i (.bld T none (nat_lit 0)) K
  | c :: l => killB H r fun H1 => setH H1 i .dead fun H2 => opNext H2 fun n => opLay H2 (.bbuf e (c :: l)) fun H3 => fN (lenN (c :: l)) fun m => setH H3 i (.bld T (some n) m) K
theorem putB_true {T e : TypeId} {H : AH} {i : Nat} {r : Option Nat} {l : List UInt8} {K : AH → Bool} (h : putB T e H i r l K = true) : K (bput H i T e r l) = true := by
  cases l with
  | nil => exact setH_true h
  | cons c l =>
    have h : (fun H1 => setH H1 i .dead fun H2 => opNext H2 fun n => opLay H2 (.bbuf e (c :: l)) fun H3 => fN (lenN (c :: l)) fun m => setH H3 i (.bld T (some n) m) K) (bkill H r) = true := killB_true h
    replace h := setH_true h
    rw [opNext_eq] at h
    replace h := opLay_true h
    rw [fN_eq] at h
    replace h := setH_true h
    rw [lenN_eq, AH.next_set, bkill_next] at h
    exact h
/-- WriteString. -/
def rWS (T e : TypeId) (vs : List V) (H : AH) (k : KT) : Bool := match vs with
  | [.p (some (i, 0)), .s s] => getB T e H i fun r l => catL l s fun m => iteB (Nat.ble (lenN m) (nat_lit 1000000)) false (putB T e H i r m fun H => fN (lenN s) fun n => k (.tup [.i .i64 (Int.ofNat n), .ni]) H)
  | _ => false
def runWS (L : Lays.n166 P ρ) (X : Builder.Extra P ρ) (hb : HasBody P (ρ.f 166)) : RunF P (ρ.f 166) :=
  ⟨rWS (ρ.t 72) (ρ.t 5), fun W0 vs H k hr => by
    unfold rWS at hr
    split at hr
    · next i s =>
      replace hr := getB_true hr; obtain ⟨r, l, h1, h2, hr⟩ := hr
      rw [catL_eq] at hr
      replace hr := iteB_f hr; obtain ⟨h3, hr⟩ := hr
      have h3 := Nat.le_of_ble_eq_true h3
      rw [lenN_eq, List.length_append] at h3
      replace hr := putB_true hr
      rw [fN_eq, lenN_eq] at hr
      refine (b_WriteString L X hb h1 h2 (Nat.le_trans h3 (by decide))).mono fun e H' hh => ?_
      obtain ⟨rfl, rfl⟩ := hh
      exact ⟨_, rfl, hr⟩
    · cases hr⟩
/-- WriteByte. -/
def rWB (T e : TypeId) (vs : List V) (H : AH) (k : KT) : Bool := match vs with
  | [.p (some (i, 0)), .i .u8 (Int.ofNat c)] => getB T e H i fun r l => iteB (Nat.blt c (nat_lit 256)) false (catL l [UInt8.ofNat c] fun m => iteB (Nat.ble (lenN m) (nat_lit 1000000)) false (putB T e H i r m fun H => k .ni H))
  | _ => false
def runWB (L : Lays.n167 P ρ) (X : Builder.Extra P ρ) (hb : HasBody P (ρ.f 167)) : RunF P (ρ.f 167) :=
  ⟨rWB (ρ.t 72) (ρ.t 5), fun W0 vs H k hr => by
    unfold rWB at hr
    split at hr
    · next i c =>
      replace hr := getB_true hr; obtain ⟨r, l, h1, h2, hr⟩ := hr
      replace hr := iteB_f hr; obtain ⟨h4, hr⟩ := hr
      rw [Nat.blt_eq] at h4
      rw [catL_eq] at hr
      replace hr := iteB_f hr; obtain ⟨h3, hr⟩ := hr
      have h3 := Nat.le_of_ble_eq_true h3
      rw [lenN_eq, List.length_append] at h3
      replace hr := putB_true hr
      have hc : (V.i .u8 (Int.ofNat c)) = .i .u8 ((UInt8.ofNat c).toNat : Int) := by
        have : (UInt8.ofNat c).toNat = c := by simpa using Nat.mod_eq_of_lt h4
        rw [this]; rfl
      rw [hc]
      refine (b_WriteByte L X hb h1 h2 (Nat.le_trans h3 (by decide))).mono fun e H' hh => ?_
      obtain ⟨rfl, rfl⟩ := hh
      exact ⟨_, rfl, hr⟩
    · cases hr⟩
/-- String. -/
def readB (e : TypeId) (H : AH) (r : Option Nat) (l : List UInt8) (K : AH → Bool) : Bool := match r with
  | none => K H
  | some j => setH H j (.bbuf e l) K
theorem readB_true {e : TypeId} {H : AH} {r : Option Nat} {l : List UInt8} {K : AH → Bool} (h : readB e H r l K = true) : K (bread H e r l) = true := by
  cases r with
  | none => exact h
  | some j => exact setH_true h
def rBS (T e : TypeId) (vs : List V) (H : AH) (k : KT) : Bool := match vs with
  | [.p (some (i, 0))] => getB T e H i fun r l => readB e H r l fun H => k (.s l) H
  | _ => false
def runBS (L : Lays.n169 P ρ) (X : Builder.Extra P ρ) (hb : HasBody P (ρ.f 169)) : RunF P (ρ.f 169) :=
  ⟨rBS (ρ.t 72) (ρ.t 5), fun W0 vs H k hr => by
    unfold rBS at hr
    split at hr
    · next i =>
      replace hr := getB_true hr; obtain ⟨r, l, h1, h2, hr⟩ := hr
      replace hr := readB_true hr
      refine (b_String L X hb h1 h2).mono fun e H' hh => ?_
      obtain ⟨rfl, rfl⟩ := hh
      exact ⟨_, rfl, hr⟩
    · cases hr⟩
/-- Len. -/
def rBL (T e : TypeId) (vs : List V) (H : AH) (k : KT) : Bool := match vs with
  | [.p (some (i, 0))] => getB T e H i fun r l => fN (lenN l) fun n => k (.i .i64 (Int.ofNat n)) H
  | _ => false
def runBL (e : TypeId) (L : Lays.n170 P ρ) (hb : HasBody P (ρ.f 170)) : RunF P (ρ.f 170) :=
  ⟨rBL (ρ.t 72) e, fun W0 vs H k hr => by
    unfold rBL at hr
    split at hr
    · next i =>
      replace hr := getB_true hr; obtain ⟨r, l, h1, h2, hr⟩ := hr
      rw [fN_eq, lenN_eq] at hr
      refine (b_Len L hb h1).mono fun e H' hh => ?_
      obtain ⟨rfl, rfl⟩ := hh
      exact ⟨_, rfl, hr⟩
    · cases hr⟩
end
end Ram
