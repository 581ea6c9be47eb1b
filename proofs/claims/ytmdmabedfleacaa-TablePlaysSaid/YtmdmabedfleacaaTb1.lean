/- A part of the proof: contracts of functions, over the abstract machine. -/
import Derived.Test.YtmdmabedfleacaaTbFn
import Derived.Test.YtmdmabedfleacaaBk5
set_option linter.unusedVariables false
set_option linter.unusedSimpArgs false
set_option linter.all false
namespace Go.Proofs.Ytmdmabedfleacaa
open Ram Go

variable {W0 : World} {H : AH}

/-- A flow's record. -/
structure Nd where
  t : Tup
  id : Int
  at_ : Int
  pv : Nat
  nx : Nat
def Nd.l (c : Nd) : List V := [.i .i64 c.t.p, .i .u32 c.t.s, .i .u32 c.t.d, .i .i64 c.t.sp, .i .i64 c.t.dp, .i .i64 c.id, .i .i64 c.at_, .p (some (c.pv, 0)), .p (some (c.nx, 0))]
def Nd.o (c : Nd) : AO := .cells .rw c.l

/-- One behind the other. -/
def Path (N : Nat → Nd) : List Nat → Prop
  | [] => True
  | [_] => True
  | x :: y :: l => (N x).nx = y ∧ (N y).pv = x ∧ Path N (y :: l)

theorem path_append {N : Nat → Nd} : ∀ {A : List Nat} {x : Nat} {B : List Nat}, Path N (A ++ x :: B) ↔ Path N (A ++ [x]) ∧ Path N (x :: B)
  | [], x, B => by simp [Path]
  | [a], x, B => by simp [Path, and_assoc]
  | a :: b :: A, x, B => by
    have := path_append (N := N) (A := b :: A) (x := x) (B := B)
    simp only [List.cons_append, Path] at this ⊢
    rw [this, and_assoc, and_assoc]

theorem path_congr {N N' : Nat → Nd} : ∀ {l : List Nat}, (∀ x ∈ l.dropLast, (N' x).nx = (N x).nx) → (∀ x ∈ l.tail, (N' x).pv = (N x).pv) → Path N l → Path N' l
  | [], _, _, _ => trivial
  | [_], _, _, _ => trivial
  | x :: y :: l, h1, h2, h => by
    refine ⟨(h1 x (by simp)).trans h.1, (h2 y (by simp)).trans h.2.1, path_congr (fun z hz => h1 z (by simp; right; exact hz)) (fun z hz => h2 z (by simp at hz ⊢; right; exact hz)) h.2.2⟩

/-- A link laid between two. -/
def linkN (N : Nat → Nd) (p n : Nat) : Nat → Nd := fun x => { N x with nx := if x = p then n else (N x).nx, pv := if x = n then p else (N x).pv }

theorem path_link {N : Nat → Nd} {A B : List Nat} {p n : Nat} (h1 : Path N (A ++ [p])) (h2 : Path N (n :: B)) (a1 : p ∉ A) (a2 : p ∉ (n :: B).dropLast) (a3 : n ∉ (A ++ [p]).tail) (a4 : n ∉ B) : Path (linkN N p n) (A ++ p :: n :: B) := by
  rw [path_append]
  refine ⟨path_congr (fun x hx => ?_) (fun x hx => ?_) h1, ?_⟩
  · rw [List.dropLast_append_of_ne_nil (by simp)] at hx
    simp only [List.dropLast_singleton, List.append_nil] at hx
    simp only [linkN]; rw [if_neg (fun e : x = p => a1 (by rw [← e]; exact hx))]
  · simp only [linkN]; rw [if_neg (fun e : x = n => a3 (by rw [← e]; exact hx))]
  · refine ⟨by simp [linkN], by simp [linkN], path_congr (fun x hx => ?_) (fun x hx => ?_) h2⟩
    · simp only [linkN]; rw [if_neg (fun e : x = p => a2 (by rw [← e]; exact hx))]
    · simp only [linkN]; rw [if_neg (fun e : x = n => a4 (by rw [← e]; exact hx))]

/-- A ring: who stands in it, one behind the other. -/
structure Ring (H : AH) (r : Nat) (xs : List Nat) (N : Nat → Nd) : Prop where
  get : ∀ a ∈ r :: xs, H.get a = some (N a).o
  lt : ∀ a ∈ r :: xs, a < H.next
  nd : (r :: xs).Nodup
  path : Path N (r :: xs ++ [r])

theorem Ring.keep {F : Nat → Prop} {H' : AH} {r : Nat} {xs : List Nat} {N : Nat → Nd} (h : Ring H r xs N) (hk : Keeps F H H') (hf : ∀ a ∈ r :: xs, ¬ F a) : Ring H' r xs N :=
  ⟨fun a ha => hk.at (h.lt a ha) (hf a ha) (h.get a ha), fun a ha => Nat.lt_of_lt_of_le (h.lt a ha) hk.next, h.nd, h.path⟩

/-- (*flow).out, at two neighbours. -/
theorem f58_raw {f p n : Nat} {cf cp cn : Nd} (gf : H.get f = some cf.o) (gp : H.get p = some cp.o) (gn : H.get n = some cn.o) (hp : cf.pv = p) (hn : cf.nx = n) (fp : f ≠ p) (fn : f ≠ n) :
    ACalls Try.prog W0 58 [.p (some (f, 0))] H fun e H' => e = .ret (.tup []) ∧ H' = (H.set p { cp with nx := n }.o).set n (if p = n then { cp with nx := n, pv := p } else { cn with pv := p }).o := by
  refine acalls_by k58 (by simp) ?_
  simp only [Nd.o, Nd.l, hp, hn] at gf gp gn
  by_cases hpn : p = n
  · subst hpn
    simp -dsimp [gf, gp, fp, Nd.o, Nd.l]
  · have hnp : ¬ n = p := fun e => hpn e.symm
    simp -dsimp [gf, gp, gn, fp, fn, hpn, hnp, Nd.o, Nd.l]
end Go.Proofs.Ytmdmabedfleacaa
