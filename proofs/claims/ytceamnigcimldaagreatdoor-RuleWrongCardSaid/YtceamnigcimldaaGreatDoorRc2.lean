/- A part of the proof: contracts of functions, over the abstract machine. -/
import Derived.Test.YtceamnigcimldaaGreatDoorRc1
import Derived.Lib.ItoaLen
set_option linter.unusedVariables false
set_option linter.unusedSimpArgs false
set_option linter.all false
/- Words that every part of the proof uses. -/
namespace Ram
open Go

def dig (n : Nat) : UInt8 := UInt8.ofNat (48 + n)
theorem digit_at : ∀ n : Fin 10, (([48, 49, 50, 51, 52, 53, 54, 55, 56, 57] : List UInt8).drop n).take 1 = [dig n] := by decide
theorem add_s {a b : List UInt8} (h : (a.length + b.length : Int) ≤ 9223372036854775807) : binS .add a b = some (.s (a ++ b)) := by unfold binS; rw [if_pos h]
theorem dec_small {n : Nat} (h : n < 10) : Lib.decDigits n = [dig n] := by rw [Lib.decDigits, dif_pos h]; rfl
theorem dec_big {n : Nat} (h : ¬ n < 10) : Lib.decDigits n = Lib.decDigits (n / 10) ++ [dig (n % 10)] := by rw [Lib.decDigits, dif_neg h]; rfl
theorem dec_len : ∀ n : Nat, (Lib.decDigits n).length ≤ n + 1
  | n => by
    by_cases h : n < 10
    · rw [dec_small h]; simp
    · rw [dec_big h]
      have := dec_len (n / 10)
      simp; omega
termination_by n => n
decreasing_by omega
theorem dec_len' : ∀ (k n : Nat), n < 10 ^ k → (Lib.decDigits n).length ≤ max k 1
  | 0, n, h => by simp at h; subst h; rw [dec_small (by omega)]; simp
  | k + 1, n, h => by
    by_cases hn : n < 10
    · rw [dec_small hn]; simp
    · rw [dec_big hn]
      have := dec_len' k (n / 10) (by rw [Nat.pow_succ] at h; omega)
      cases k with
      | zero => simp at h; omega
      | succ k => simp at this ⊢; omega
theorem has_u32 {a : Int} (h : IntKind.u32.has a) : 0 ≤ a ∧ a < 4294967296 := by
  simp [IntKind.has, IntKind.min, IntKind.max, IntKind.signed, IntKind.bits] at h; omega
theorem itoa_pos {n : Int} (h : 0 ≤ n) : Lib.itoa n = Lib.decDigits n.toNat := by unfold Lib.itoa; rw [if_neg (by omega)]
theorem has_i64 {a : Int} (h : IntKind.i64.has a) : -9223372036854775808 ≤ a ∧ a ≤ 9223372036854775807 := by
  simp [IntKind.has, IntKind.min, IntKind.max, IntKind.signed, IntKind.bits] at h; omega
theorem beq_b (x : Bool) : (x == x) = true := by simp
theorem wrap_succ {i : Nat} (h : i < 9223372036854775807) : IntKind.i64.wrap ((i : Int) + 1) = (i : Int) + 1 := wrap_i64 (by omega) (by omega)

set_option maxRecDepth 4000 in
theorem join_len (ls : List (List UInt8)) (c : UInt8) (m : Nat) (h : ∀ x ∈ ls, x.length ≤ m) : (Lib.join ls [c]).length ≤ ls.length * (m + 1) := by
  cases ls with
  | nil => simp [Lib.join, List.intercalate]
  | cons x r =>
    rw [Lib.join_cons, List.length_append]
    have h1 := h x (by simp)
    have h2 : ∀ (r : List (List UInt8)), (∀ y ∈ r, y.length ≤ m) → (Lib.joinTail [c] r).length ≤ r.length * (m + 1) := by
      intro r
      induction r with
      | nil => intro _; simp [Lib.joinTail]
      | cons y r ih =>
        intro hr
        have := ih fun z hz => hr z (by simp [hz])
        have hy := hr y (by simp)
        unfold Lib.joinTail at this ⊢
        simp only [List.map_cons, List.flatten_cons, List.length_append, List.length_cons, List.length_nil] at this ⊢
        rw [Nat.add_mul]; omega
    have := h2 r fun y hy => h y (by simp [hy])
    simp only [List.length_cons]
    rw [Nat.add_mul]; omega

set_option maxRecDepth 4000 in
theorem at_row {H : AH} {md : Md} {es : Nat} {v : V} {α : Type} {l : List α} {r : α → List V} {F : Nat → Prop} (hs : SlV H md es v (l.map r) F) {i : Nat} (hi : i < l.length) : ∃ id o cap cs, v = .sl es (some (id, o)) l.length cap ∧ F id ∧ SlAt H md es id o cap (l.map r) cs ∧ id < H.next := by
  rcases hs with ⟨hnil, _⟩ | ⟨id, o, cap, cs, hvv, hF, hs⟩
  · simp only [List.map_eq_nil_iff] at hnil; subst hnil; simp at hi
  · rw [List.length_map] at hvv
    exact ⟨id, o, cap, cs, hvv, hF, hs, hs.lt⟩
theorem Grows.rw {H H' : AH} (h : Grows H H') : ∀ i, i < H.next → H'.get i = H.get i := fun i hi => h.get i hi id
theorem join_snoc : ∀ (ps : List (List UInt8)) (p : List UInt8) (s : List UInt8), Lib.join (ps ++ [p]) s = if ps = [] then p else Lib.join ps s ++ s ++ p
  | [], p, s => by simp [Lib.join, List.intercalate]
  | [a], p, s => by simp [Lib.join, List.intercalate, List.intersperse]
  | a :: b :: r, p, s => by
    have ih := join_snoc (b :: r) p s
    simp only [if_neg (List.cons_ne_nil _ _)] at ih ⊢
    have e1 : ∀ (x y : List UInt8) (r : List (List UInt8)), Lib.join (x :: y :: r) s = x ++ s ++ Lib.join (y :: r) s := by
      intro x y r; simp [Lib.join, List.intercalate, List.intersperse]
    rw [List.cons_append, List.cons_append, e1, e1]
    rw [List.cons_append] at ih
    rw [ih]
    simp

set_option maxRecDepth 4000 in
theorem rows_of {A : AH} {ks : List KC} : ∀ {rows : List (List V)}, (∀ r ∈ rows, HasK A ks r) → HasRs A ks rows
  | [], _ => .nil _
  | r :: rows, h => .cons _ _ _ (h r (by simp)) (rows_of fun x hx => h x (by simp [hx]))

set_option maxRecDepth 4000 in
/-- A row at its place. -/
theorem row_at {α : Type} {l : List α} {r : α → List V} {i : Nat} (h : i < l.length) : (l.map r)[i]? = some (r l[i]) := by rw [List.getElem?_map, List.getElem?_eq_getElem h]; rfl
theorem decDigits_le {n : Nat} (h : n < 9223372036854775808) : (Lib.decDigits n).length ≤ 21 := by
  have := Lib.itoa_length_le (n : Int) (by omega) (by omega)
  rwa [itoa_pos (by omega), Int.toNat_natCast] at this
theorem take_snoc {α : Type} {l : List α} {i : Nat} (h : i < l.length) : l.take (i + 1) = l.take i ++ [l[i]] := by rw [List.take_add_one, List.getElem?_eq_getElem h]; rfl
/-- One row in memory of its own. -/
theorem one_row {H : AH} {md : Md} {r : List V} {es : Nat} (hr : r.length = es) : SlV (H.alloc (.cells md r)) md es (.sl es (some (H.next, 0)) 1 1) [r] (fun _ => True) := by
  refine .inr ⟨H.next, 0, 1, r, by simp, trivial, ?_⟩
  have := SlAt.of (H := H.alloc (.cells md r)) (md := md) (es := es) (id := H.next) (o := 0) (cap := 1) (rows := [r]) (A := []) (B := []) (by simp) (by simp) (by simpa using hr) rfl (by simp) (by simp)
  simpa using this
end Ram
