/- A part of the proof: contracts of functions, over the abstract machine. -/
import Derived.Test.YtceamnigcimldaaGreatDoorZd1
set_option linter.unusedVariables false
set_option linter.unusedSimpArgs false
set_option linter.all false
/- Runs of the parser: the library as oracles. -/
namespace Go.Proofs.YtceamnigcimldaaGreatDoor
open Ram Go

variable {W0 : World} {H : AH}

def insS (x : Int) : List Int → List Int
  | [] => [x]
  | y :: r => if x ≤ y then x :: y :: r else y :: insS x r
def isort : List Int → List Int
  | [] => []
  | x :: r => insS x (isort r)
theorem insS_perm (x : Int) : ∀ l : List Int, (insS x l).Perm (x :: l)
  | [] => .refl _
  | y :: r => by
    unfold insS
    split
    · exact .refl _
    · exact ((insS_perm x r).cons y).trans (.swap x y r)
theorem isort_perm : ∀ l : List Int, (isort l).Perm l
  | [] => .refl _
  | x :: r => (insS_perm x _).trans ((isort_perm r).cons x)
theorem insS_sorted (x : Int) : ∀ {l : List Int}, l.Pairwise (· ≤ ·) → (insS x l).Pairwise (· ≤ ·)
  | [], _ => by simp [insS]
  | y :: r, h => by
    obtain ⟨h1, h2⟩ := List.pairwise_cons.1 h
    unfold insS
    split
    · next hxy => exact List.pairwise_cons.2 ⟨fun z hz => by rcases List.mem_cons.1 hz with rfl | hz; exact hxy; exact Int.le_trans hxy (h1 z hz), h⟩
    · next hxy =>
      refine List.pairwise_cons.2 ⟨fun z hz => ?_, insS_sorted x h2⟩
      rcases List.mem_cons.1 ((insS_perm x r).mem_iff.1 hz) with rfl | hz
      · omega
      · exact h1 z hz
theorem isort_sorted : ∀ l : List Int, (isort l).Pairwise (· ≤ ·)
  | [] => .nil
  | x :: r => insS_sorted x (isort_sorted r)
theorem isort_eq (l : List Int) : (l.mergeSort fun x y => decide (x ≤ y)) = isort l := by
  have tr : ∀ a b c : Int, decide (a ≤ b) = true → decide (b ≤ c) = true → decide (a ≤ c) = true := fun a b c h1 h2 => by simp at *; omega
  have to : ∀ a b : Int, (decide (a ≤ b) || decide (b ≤ a)) = true := fun a b => by simp; omega
  have s1 := (List.pairwise_mergeSort (le := fun x y : Int => decide (x ≤ y)) tr to l).imp fun h => of_decide_eq_true h
  exact List.Perm.eq_of_pairwise (fun a b _ _ h1 h2 => Int.le_antisymm h1 h2) s1 (isort_sorted l) ((List.mergeSort_perm _ _).trans (isort_perm l).symm)

def libLower (g : FuncId) : FuncId → List V → AH → Option (AEnd × AH) := fun f vs H => match Nat.beq f g, vs with
  | true, [.s l] => match l.all (fun b => Nat.blt b.toNat 128), Nat.ble l.length 1000000 with
    | true, true => some (.ret (.s (Lib.toLowerA l)), H)
    | _, _ => none
  | _, _ => none
theorem libLower_ok : CallOk Tryz.prog W0 (libLower 133) := by
  intro f vs H e H' hh
  unfold libLower at hh
  split at hh
  · next hf =>
    have := Nat.eq_of_beq_eq_true hf; subst this
    split at hh
    · next l h1 h2 =>
      simp only [Option.some.injEq, Prod.mk.injEq] at hh
      have h3 := Nat.le_of_ble_eq_true h2
      refine (f133 (H := H) (by omega) fun b hb => ?_).mono fun e' H'' h' => ⟨h'.1.trans hh.1, h'.2.symm.trans hh.2⟩
      have := List.all_eq_true.1 h1 b hb
      rw [Nat.blt_eq] at this
      exact this
    · cases hh
  · cases hh

def libRune (g : FuncId) : FuncId → List V → AH → Option (AEnd × AH) := fun f vs H => match Nat.beq f g, vs with
  | true, [.s l, .i .i32 r] => if 0 ≤ r ∧ r < 128 then some (.ret (.b (decide (0 ≤ Lib.indexByte l r.toNat.toUInt8))), H) else none
  | _, _ => none
theorem libRune_ok : CallOk Tryz.prog W0 (libRune 135) := by
  intro f vs H e H' hh
  unfold libRune at hh
  split at hh
  · next hf =>
    have := Nat.eq_of_beq_eq_true hf; subst this
    split at hh
    · next h1 =>
      simp only [Option.some.injEq, Prod.mk.injEq] at hh
      exact (f135 (H := H) h1.1 h1.2).mono fun e' H'' h' => ⟨h'.1.trans hh.1, h'.2.symm.trans hh.2⟩
    · cases hh
  · cases hh

def libKeys (g c : FuncId) : FuncId → List V → AH → Option (AEnd × AH) := fun f vs H => match Nat.beq f g, vs with
  | true, [.m r] => some (.ret (.f (.func c) [] [.p (some (H.next, 0))]), H.alloc (.mbox r))
  | _, _ => none
theorem libKeys_ok : CallOk Tryz.prog W0 (libKeys 96 130) := by
  intro f vs H e H' hh
  unfold libKeys at hh
  split at hh
  · next hf =>
    have := Nat.eq_of_beq_eq_true hf; subst this
    simp only [Option.some.injEq, Prod.mk.injEq] at hh
    exact (f96 (H := H)).mono fun e' H'' h' => ⟨h'.1.trans hh.1, h'.2.trans hh.2⟩
  · cases hh

def intKs : List (V × V) → Option (List Int)
  | [] => some []
  | (.i .i64 z, _) :: r => match intKs r with
    | some l => some (z :: l)
    | none => none
  | _ :: _ => none
theorem intKs_eq : ∀ {es : List (V × V)} {zs : List Int}, intKs es = some zs → es.map (·.1) = zs.map (V.i .i64)
  | [], zs, h => by simp only [intKs, Option.some.injEq] at h; rw [← h]; rfl
  | (k, v) :: r, zs, h => by
    unfold intKs at h
    split at h
    · simp_all
    · next hk =>
      split at h
      · next l hl =>
        simp only [Option.some.injEq] at h
        simp only [List.cons.injEq, Prod.mk.injEq] at hk
        obtain ⟨⟨rfl, _⟩, rfl⟩ := hk
        rw [← h, List.map_cons, List.map_cons, intKs_eq hl]
      · cases h
    · cases h
def libSorted (g c : FuncId) : FuncId → List V → AH → Option (AEnd × AH) := fun f vs H => match Nat.beq f g, vs with
  | true, [.f (.func c') [] [.p (some (bid, 0))]] => match Nat.beq c' c, H.get bid with
    | true, some (.mbox (some id)) => match H.get id with
      | some (.map es) => match intKs es with
        | some zs => if zs.Nodup ∧ (∀ z ∈ zs, -9223372036854775808 ≤ z ∧ z ≤ 9223372036854775807) ∧ zs.length < 1000000 then match zs with
            | [] => some (.ret (.sl 1 none 0 0), H)
            | z :: r => some (.ret (.sl 1 (some (H.next, 0)) (z :: r).length (z :: r).length), H.alloc (.cells .rw ((isort (z :: r)).map (V.i .i64)))) else none
        | none => none
      | _ => none
    | _, _ => none
  | _, _ => none
theorem libSorted_ok : CallOk Tryz.prog W0 (libSorted 95 130) := by
  intro f vs H e H' hh
  unfold libSorted at hh
  split at hh
  · next c' bid hf =>
    have := Nat.eq_of_beq_eq_true hf; subst this
    split at hh
    · next id hc hb =>
      have := Nat.eq_of_beq_eq_true hc; subst this
      split at hh
      · next es hm =>
        split at hh
        · next zs hz =>
          split at hh
          · next hcnd =>
            refine (f95 (H := H) hb hm (intKs_eq hz) hcnd.1 hcnd.2.1 hcnd.2.2).mono fun e' H'' h' => ?_
            rcases h' with ⟨rfl, rfl, rfl⟩ | ⟨hne, rfl, rfl⟩
            · simp only [Option.some.injEq, Prod.mk.injEq] at hh
              exact ⟨hh.1, hh.2⟩
            · match zs, hne, hh with
              | z :: r, _, hh =>
                simp only [Option.some.injEq, Prod.mk.injEq] at hh
                rw [isort_eq]
                exact ⟨hh.1, hh.2⟩
          · cases hh
        · cases hh
      · cases hh
    · cases hh
  · cases hh

def lib0 : FuncId → List V → AH → Option (AEnd × AH) := libOr (libLower 133) (libOr (libRune 135) (libOr (libKeys 96 130) (libSorted 95 130)))
theorem lib0_ok : CallOk Tryz.prog W0 lib0 := libOr_ok libLower_ok (libOr_ok libRune_ok (libOr_ok libKeys_ok libSorted_ok))
def rest : FuncId → List V → AH → Option (AEnd × AH) := evFn tab.get lib0 5000 5000
theorem rest_ok : CallOk Tryz.prog W0 rest := evFn_sound (FT.sound tab_ok) lib0_ok 5000
def libItems : FuncId → List V → AH → Option (AEnd × AH) := fun f vs H => match Nat.beq f 50, vs with
  | true, [.p (some q)] => match rest 86 [.p (some q)] (H.alloc (.cells .rw [.i .i64 0])) with
    | some (.ret (.tup []), H') => match H'.get H.next with
      | some (.cells .rw [_]) => some (.ret (.i .i64 0), (H'.set H.next (.cells .rw [.i .i64 0])).alloc (.cells .rw [.i .i64 0]))
      | _ => none
    | some (.pan (.ifc t (.agg [.i .i64 n])), H') => match Nat.beq t 134, H'.get H.next with
      | true, some (.cells .rw [.i .i64 _]) => some (.ret (.i .i64 n), (H'.alloc (.cells .rw [.i .i64 n])).set H.next (.cells .rw [.i .i64 n]))
      | _, _ => none
    | _ => none
  | _, _ => none
theorem libItems_ok : CallOk Tryz.prog W0 libItems := by
  intro f vs H e H' hh
  unfold libItems at hh
  split at hh
  · next q hf =>
    have := Nat.eq_of_beq_eq_true hf; subst this
    split at hh
    · next H1 h1 =>
      split at hh
      · next x hx =>
        simp only [Option.some.injEq, Prod.mk.injEq] at hh
        refine f50 ((rest_ok _ _ _ _ _ h1).mono fun e' H'' h' => ?_)
        obtain ⟨rfl, rfl⟩ := h'
        exact .inl ⟨rfl, ⟨x, hx⟩, hh.1, hh.2⟩
      · cases hh
    · next t n H1 h1 =>
      split at hh
      · next x ht hx =>
        have := Nat.eq_of_beq_eq_true ht; subst this
        simp only [Option.some.injEq, Prod.mk.injEq] at hh
        refine f50 ((rest_ok _ _ _ _ _ h1).mono fun e' H'' h' => ?_)
        obtain ⟨rfl, rfl⟩ := h'
        exact .inr ⟨n, rfl, ⟨x, hx⟩, hh.1, hh.2⟩
      · cases hh
    · cases hh
  · cases hh
def lib : FuncId → List V → AH → Option (AEnd × AH) := libOr lib0 libItems
theorem lib_ok : CallOk Tryz.prog W0 lib := libOr_ok lib0_ok libItems_ok
/-- Runs of this program. -/
def call : FuncId → List V → AH → Option (AEnd × AH) := evFn tab.get lib 5000 30
theorem call_ok : CallOk Tryz.prog W0 call := evFn_sound (FT.sound tab_ok) lib_ok 30
end Go.Proofs.YtceamnigcimldaaGreatDoor
