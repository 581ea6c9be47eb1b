/- A part of the proof: contracts of functions, over the abstract machine. -/
import Derived.Test.YtmdmabedfleacaaBk5
set_option linter.unusedVariables false
set_option linter.unusedSimpArgs false
set_option linter.all false
namespace Go.Proofs.Ytmdmabedfleacaa
open Ram Go

variable {W0 : World} {H : AH}

/-- rampartref21.Turn. -/
theorem f69 (t : Tup) : ACalls Try.prog W0 69 [.agg t.c] H fun e H' => e = .ret (.agg t.turn.c) ∧ Grows H H' := by
  refine acalls_by k69 (by simp) ?_
  simp -dsimp [Tup.turn]
  exact Keeps.alloc' (Keeps.alloc' Keeps.refl)

/-- rampartref21.Is. -/
theorem f56 (a b : Tup) : ACalls Try.prog W0 56 [.agg a.c, .agg b.c] H fun e H' => e = .ret (.b (decide (a = b))) ∧ Grows H H' := by
  refine acalls_by k56 (by simp) ?_
  have hk : ∀ x y : AO, Grows H ((H.alloc x).alloc y) := fun _ _ => Keeps.alloc' (Keeps.alloc' Keeps.refl)
  rw [show decide (a = b) = decide (a.p = b.p ∧ a.s = b.s ∧ a.d = b.d ∧ a.sp = b.sp ∧ a.dp = b.dp) by simp only [Tup.eq_iff]]
  by_cases h1 : a.p = b.p <;> by_cases h2 : a.s = b.s <;> by_cases h3 : a.d = b.d <;> by_cases h4 : a.sp = b.sp <;> by_cases h5 : a.dp = b.dp <;> simp -dsimp [h1, h2, h3, h4, h5, hk]

/-- rampartref21.Same. -/
theorem f64 (a b : Tup) : ACalls Try.prog W0 64 [.agg a.c, .agg b.c] H fun e H' => e = .ret (.tup [.i .i64 (sameDir a b), .b (same a b)]) ∧ Grows H H' := by
  refine acalls_by k64 (by simp) ?_
  simp -dsimp
  refine (f56 a b).next ?_
  rintro H2 g2
  have g1 : Grows H H2 := Keeps.trans (Keeps.alloc' (Keeps.alloc' Keeps.refl)) g2
  have ga : H2.get H.next = some (.cells .rw a.c) := Grows.at g2 (by simp <;> omega) (by simp)
  have gb : H2.get (H.next + 1) = some (.cells .rw b.c) := Grows.at g2 (by simp <;> omega) (by simp)
  by_cases h1 : a = b
  · subst h1
    simp -dsimp [sameDir, same, g1]
  · simp -dsimp [h1, ldCells_of ga, ldCells_of gb]
    refine (f69 b).next ?_
    rintro H3 g3
    have ga3 := Grows.at g3 (Nat.lt_of_lt_of_le (by simp <;> omega) g2.next) ga
    simp -dsimp [ldCells_of ga3]
    refine (f56 a b.turn).next ?_
    rintro H4 g4
    have g14 := (g1.trans g3).trans g4
    by_cases h2 : a = b.turn
    · simp -dsimp [sameDir, same, h1, ← h2, g14]
    · simp -dsimp [sameDir, same, h1, h2, g14]

/-- A row of the document's answer. -/
@[simp] def refRow (n : Blk → Int) (x : Blk) : List V := [.i .i64 x.t.p, .i .u32 x.t.s, .i .u32 x.t.d, .i .i64 x.t.sp, .i .i64 x.t.dp, .i .i64 (n x), .i .i64 x.at_]
def zrow : Blk → List V := refRow fun _ => 0

/-- The document's answer: where it lies. -/
def RRep (H : AH) (w : Nat) (ticks now : Int) (l : List Blk) (F : Nat → Prop) : Prop :=
  ∃ v, F w ∧ (∀ i, F i → i < H.next) ∧ H.get w = some (.cells .rw [.i .i64 ticks, .i .i64 now, v]) ∧ SlV H .rw 7 v (l.map zrow) (fun i => F i ∧ i ≠ w)

theorem RRep.keep {w : Nat} {ticks now : Int} {l : List Blk} {F G : Nat → Prop} {H H' : AH} (h : RRep H w ticks now l F) (hk : Keeps G H H') (hf : ∀ i, F i → ¬ G i) : RRep H' w ticks now l F := by
  obtain ⟨v, Fw, hF, gw, hs⟩ := h
  exact ⟨v, Fw, fun i hi => Nat.lt_of_lt_of_le (hF i hi) hk.next, hk.at (hF _ Fw) (hf _ Fw) gw, hs.keep hk fun i h => hf i h.1⟩
theorem RRep.grow {w : Nat} {ticks now : Int} {l : List Blk} {F : Nat → Prop} {H H' : AH} (h : RRep H w ticks now l F) (hk : Grows H H') : RRep H' w ticks now l F := h.keep hk fun _ _ h => h

/-- B.at. -/
theorem f54 (t : Tup) {w : Nat} {ticks now : Int} {l : List Blk} {F : Nat → Prop} (hw : RRep H w ticks now l F) (hl : l.length < 1000) : ACalls Try.prog W0 54 [.p (some (w, 0)), .agg t.c] H fun e H' =>
    e = .ret (.i .i64 (match l.findIdx? fun x => same t x.t with | some i => (i : Int) | none => -1)) ∧ Grows H H' := by
  refine acalls_by k54 (by simp) ?_
  obtain ⟨v, Fw, hF, gw, hs⟩ := hw
  simp -dsimp
  refine awp_round (fun m env H1 => ∃ i : Nat, i ≤ l.length ∧ m = l.length - i ∧ Grows H H1 ∧ env.get 0 = some (.p (some (w, 0))) ∧ env.get 3 = some (.p (some (H.next, 0))) ∧ env.get 5 = some (.i .i64 i) ∧ H1.get H.next = some (.cells .rw t.c) ∧ H.next < H1.next ∧ ∀ j r, j < i → l[j]? = some r → same t r.t = false)
    l.length ⟨0, by simp, by simp, Keeps.alloc' Keeps.refl, by simp, by simp, by simp, by simp, by simp <;> omega, by simp⟩ ?_
  rintro m env H1 ⟨i, hi, rfl, hgr, e0, e3, e5, gx, hn, hno⟩
  have gw1 := Grows.at hgr (hF _ Fw) gw
  obtain ⟨e', a', cap', hv⟩ := hs.len
  rw [List.length_map] at hv
  by_cases hlt : i < l.length
  · rcases hs with ⟨hnil, _⟩ | ⟨id, o, cap, cs, rfl, hF', hs⟩
    · simp only [List.map_eq_nil_iff] at hnil; subst hnil; simp at hlt
    have hr : l[i]? = some l[i] := List.getElem?_eq_getElem hlt
    have hs1 := hs.keep hgr fun h => h
    have hrow := hs1.row_part (i := i) (r := zrow l[i]) (by simp [hr]) (off := 0) (n := 5) (by omega)
    simp [zrow] at hrow
    have hwi : IntKind.i64.wrap ((i : Int) + 1) = (i : Int) + 1 := wrap_i64 (by omega) (by omega)
    simp -dsimp [e0, e3, e5, gw1, hlt, ldCells_of gx, hrow]
    refine (f64 t l[i].t).next ?_
    rintro H2 g2
    have gw2 := Grows.at g2 (Nat.lt_of_lt_of_le (hF _ Fw) hgr.next) gw1
    have gx2 := Grows.at g2 hn gx
    cases hsm : same t l[i].t
    · simp -dsimp [e0, e3, e5, gw2, hlt, ldCells_of gx2, hwi]
      refine hold_mk ⟨l.length - (i + 1), by omega, i + 1, by omega, rfl, hgr.trans g2, by simp [e0], by simp [e3], by simp, gx2, Nat.lt_of_lt_of_le hn g2.next, fun j r hj hr' => ?_⟩
      by_cases e : j = i
      · subst e; rw [hr] at hr'; simp only [Option.some.injEq] at hr'; subst hr'; exact hsm
      · exact hno j r (by omega) hr'
    · have : l.findIdx? (fun x => same t x.t) = some i := findIdx_at hr hsm hno
      rw [this]
      simp -dsimp [e0, e3, e5]
      exact hgr.trans g2
  · have : l.findIdx? (fun x => same t x.t) = none := by
      rw [List.findIdx?_eq_none_iff]
      intro x hx
      obtain ⟨j, hj, rfl⟩ := List.getElem_of_mem hx
      exact hno j _ (by omega) (List.getElem?_eq_getElem hj)
    rw [this]
    simp -dsimp [e0, e3, e5, gw1, hv, hlt]
    exact hgr
end Go.Proofs.Ytmdmabedfleacaa
