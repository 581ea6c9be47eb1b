/- A part of the proof: contracts of functions, over the abstract machine. -/
import Derived.Test.YtjaammiblfndaaaGreatDoorFx6
import Derived.Test.YtjaammiblfndaaaGreatDoorRc1
import Derived.Lib.Case
import Derived.Lib.Bytealg
set_option linter.unusedVariables false
set_option linter.unusedSimpArgs false
set_option linter.all false
/- The library's functions that runs take over: out of their contracts. -/
namespace Ram
open Go

def insS (x : Int) : List Int → List Int
  | [] => [x]
  | y :: r => if x ≤ y then x :: y :: r else y :: insS x r
def isort : List Int → List Int
  | [] => []
  | x :: r => insS x (isort r)
theorem insS_perm (x : Int) : ∀ l : List Int, (insS x l).Perm (x :: l)
  | [] => .refl _
  | y :: r => by
    unfold insS
    split
    · exact .refl _
    · exact ((insS_perm x r).cons y).trans (.swap x y r)
theorem isort_perm : ∀ l : List Int, (isort l).Perm l
  | [] => .refl _
  | x :: r => (insS_perm x _).trans ((isort_perm r).cons x)
theorem insS_sorted (x : Int) : ∀ {l : List Int}, l.Pairwise (· ≤ ·) → (insS x l).Pairwise (· ≤ ·)
  | [], _ => by simp [insS]
  | y :: r, h => by
    obtain ⟨h1, h2⟩ := List.pairwise_cons.1 h
    unfold insS
    split
    · next hxy => exact List.pairwise_cons.2 ⟨fun z hz => by rcases List.mem_cons.1 hz with rfl | hz; exact hxy; exact Int.le_trans hxy (h1 z hz), h⟩
    · next hxy =>
      refine List.pairwise_cons.2 ⟨fun z hz => ?_, insS_sorted x h2⟩
      rcases List.mem_cons.1 ((insS_perm x r).mem_iff.1 hz) with rfl | hz
      · omega
      · exact h1 z hz
theorem isort_sorted : ∀ l : List Int, (isort l).Pairwise (· ≤ ·)
  | [] => .nil
  | x :: r => insS_sorted x (isort_sorted r)
theorem isort_eq (l : List Int) : (l.mergeSort fun x y => decide (x ≤ y)) = isort l := by
  have tr : ∀ a b c : Int, decide (a ≤ b) = true → decide (b ≤ c) = true → decide (a ≤ c) = true := fun a b c h1 h2 => by simp at *; omega
  have to : ∀ a b : Int, (decide (a ≤ b) || decide (b ≤ a)) = true := fun a b => by simp; omega
  have s1 := (List.pairwise_mergeSort (le := fun x y : Int => decide (x ≤ y)) tr to l).imp fun h => of_decide_eq_true h
  exact List.Perm.eq_of_pairwise (fun a b _ _ h1 h2 => Int.le_antisymm h1 h2) s1 (isort_sorted l) ((List.mergeSort_perm _ _).trans (isort_perm l).symm)
def intKs : List (V × V) → Option (List Int)
  | [] => some []
  | (.i .i64 z, _) :: r => match intKs r with
    | some l => some (z :: l)
    | none => none
  | _ :: _ => none
theorem intKs_eq : ∀ {es : List (V × V)} {zs : List Int}, intKs es = some zs → es.map (·.1) = zs.map (V.i .i64)
  | [], zs, h => by simp only [intKs, Option.some.injEq] at h; rw [← h]; rfl
  | (k, v) :: r, zs, h => by
    unfold intKs at h
    split at h
    · simp_all
    · next hk =>
      split at h
      · next l hl =>
        simp only [Option.some.injEq] at h
        simp only [List.cons.injEq, Prod.mk.injEq] at hk
        obtain ⟨⟨rfl, _⟩, rfl⟩ := hk
        rw [← h, List.map_cons, List.map_cons, intKs_eq hl]
      · cases h
    · cases h

noncomputable section
variable {P : Program} {g c : FuncId}
/-- strings.ToLower. -/
def rLower (vs : List V) (H : AH) (k : KT) : Bool := match vs with
  | [.s l] => iteB (l.all fun b => Nat.blt b.toNat (nat_lit 128)) false (iteB (Nat.ble (lenN l) (nat_lit 1000000)) false (k (.s (Lib.toLowerA l)) H))
  | _ => false
def runLower (h : ∀ (W0 : World) (l : List UInt8) (H : AH), l.length ≤ 140737488355328 → (∀ b ∈ l, b.toNat < 128) → ACalls P W0 g [.s l] H fun e H' => e = .ret (.s (Lib.toLowerA l)) ∧ H = H') : RunF P g :=
  ⟨rLower, fun W0 vs H k hr => by
    unfold rLower at hr
    split at hr
    · next l =>
      replace hr := iteB_f hr; obtain ⟨h1, hr⟩ := hr
      replace hr := iteB_f hr; obtain ⟨h2, hr⟩ := hr
      have h3 : l.length ≤ 1000000 := by rw [← lenN_eq]; exact Nat.le_of_ble_eq_true h2
      refine (h W0 l H (by omega) fun b hb => ?_).mono fun e H' hh => ?_
      · have := List.all_eq_true.1 h1 b hb
        rw [Nat.blt_eq] at this; exact this
      · obtain ⟨rfl, rfl⟩ := hh
        exact ⟨_, rfl, hr⟩
    · cases hr⟩
/-- strings.ContainsRune. -/
def rRune (vs : List V) (H : AH) (k : KT) : Bool := match vs with
  | [.s l, .i .i32 r] => match decide (0 ≤ r ∧ r < 128) with
    | true => k (.b (decide (0 ≤ Lib.indexByte l r.toNat.toUInt8))) H
    | false => false
  | _ => false
def runRune (h : ∀ (W0 : World) (l : List UInt8) (r : Int) (H : AH), 0 ≤ r → r < 128 → ACalls P W0 g [.s l, .i .i32 r] H fun e H' => e = .ret (.b (decide (0 ≤ Lib.indexByte l r.toNat.toUInt8))) ∧ H = H') : RunF P g :=
  ⟨rRune, fun W0 vs H k hr => by
    unfold rRune at hr
    split at hr
    · next l r =>
      split at hr
      · next h1 =>
        have h1 := of_decide_eq_true h1
        refine (h W0 l r H h1.1 h1.2).mono fun e H' hh => ?_
        obtain ⟨rfl, rfl⟩ := hh
        exact ⟨_, rfl, hr⟩
      · cases hr
    · cases hr⟩
/-- maps.Keys. -/
def rKeys (c : FuncId) (vs : List V) (H : AH) (k : KT) : Bool := match vs with
  | [.m r] => opNext H fun n => opLay H (.mbox r) fun H => k (.f (.func c) [] [.p (some (n, nat_lit 0))]) H
  | _ => false
def runKeys (h : ∀ (W0 : World) (r : Option Nat) (H : AH), ACalls P W0 g [.m r] H fun e H' => e = .ret (.f (.func c) [] [.p (some (H.next, 0))]) ∧ H' = H.alloc (.mbox r)) : RunF P g :=
  ⟨rKeys c, fun W0 vs H k hr => by
    unfold rKeys at hr
    split at hr
    · next r =>
      rw [opNext_eq] at hr
      replace hr := opLay_true hr
      refine (h W0 r H).mono fun e H' hh => ?_
      obtain ⟨rfl, rfl⟩ := hh
      exact ⟨_, rfl, hr⟩
    · cases hr⟩
/-- slices.Sorted of them. -/
def rSorted (c : FuncId) (vs : List V) (H : AH) (k : KT) : Bool := match vs with
  | [.f (.func c') [] [.p (some (bid, 0))]] => iteB (Nat.beq c' c) false (getH H bid fun o => match o with
    | .mbox (some id) => getH H id fun o => match o with
      | .map es => match intKs es with
        | some zs => match decide (zs.Nodup ∧ (∀ z ∈ zs, -9223372036854775808 ≤ z ∧ z ≤ 9223372036854775807) ∧ zs.length < 1000000) with
          | true => match zs with
            | [] => k (.sl 1 none 0 0) H
            | z :: r => lenL (z :: r) fun n => opNext H fun id => opLay H (.cells .rw ((isort (z :: r)).map (V.i .i64))) fun H => k (.sl 1 (some (id, nat_lit 0)) n n) H
          | false => false
        | none => false
      | _ => false
    | _ => false)
  | _ => false
def runSorted (h : ∀ (W0 : World) (H : AH) (bid id : Nat) (es : List (V × V)) (zs : List Int), H.get bid = some (.mbox (some id)) → H.get id = some (.map es) → es.map (·.1) = zs.map (V.i .i64) → zs.Nodup →
    (∀ z ∈ zs, -9223372036854775808 ≤ z ∧ z ≤ 9223372036854775807) → zs.length < 1000000 →
    ACalls P W0 g [.f (.func c) [] [.p (some (bid, 0))]] H fun e H' => (zs = [] ∧ e = .ret (.sl 1 none 0 0) ∧ H' = H) ∨
      (zs ≠ [] ∧ e = .ret (.sl 1 (some (H.next, 0)) zs.length zs.length) ∧ H' = H.alloc (.cells .rw ((zs.mergeSort fun x y => decide (x ≤ y)).map (V.i .i64))))) : RunF P g :=
  ⟨rSorted c, fun W0 vs H k hr => by
    unfold rSorted at hr
    split at hr
    · next c' bid =>
      replace hr := iteB_f hr; obtain ⟨h1, hr⟩ := hr
      have h1 := Nat.eq_of_beq_eq_true h1
      subst h1
      replace hr := getH_true hr; obtain ⟨o, hb, hr⟩ := hr
      split at hr
      · next id =>
        replace hr := getH_true hr; obtain ⟨o, hm, hr⟩ := hr
        split at hr
        · next es =>
          split at hr
          · next zs hz =>
            split at hr
            · next hd =>
              have hd := of_decide_eq_true hd
              refine (h W0 H bid id es zs hb hm (intKs_eq hz) hd.1 hd.2.1 hd.2.2).mono fun e H' hh => ?_
              rcases hh with ⟨rfl, rfl, rfl⟩ | ⟨hne, rfl, rfl⟩
              · exact ⟨_, rfl, hr⟩
              · split at hr
                · exact (hne rfl).elim
                · next z r =>
                  rw [lenL_eq, opNext_eq] at hr
                  replace hr := opLay_true hr
                  rw [isort_eq]
                  exact ⟨_, rfl, hr⟩
            · cases hr
          · cases hr
        · cases hr
      · cases hr
    · cases hr⟩
/-- strconv.Itoa. -/
def rItoa (vs : List V) (H : AH) (k : KT) : Bool := match vs with
  | [.i .i64 n] => match decide (-9223372036854775808 ≤ n ∧ n ≤ 9223372036854775807) with
    | true => k (.s (Lib.itoa n)) H
    | false => false
  | _ => false
/-- A function of no values that always tells the same. -/
def runSame {v : V} (h : ∀ (W0 : World) (H : AH), ACalls P W0 g [] H fun e H' => e = .ret v ∧ H = H') : RunF P g :=
  ⟨fun vs H k => match vs with
  | [] => k v H
  | _ :: _ => false, fun W0 vs H k hr => by
    cases vs with
    | nil =>
      refine (h W0 H).mono fun e H' hh => ?_
      obtain ⟨rfl, rfl⟩ := hh
      exact ⟨_, rfl, hr⟩
    | cons => cases hr⟩
/-- Is it true? -/
def isT (v : V) : Bool := asB v fun b => b
theorem isT_true {v : V} (h : isT v = true) : v = .b true := by
  obtain ⟨b, rfl, h⟩ := asB_true h
  exact congrArg V.b h
end
end Ram
