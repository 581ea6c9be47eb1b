/- A part of the proof: contracts of functions, over the abstract machine. -/
import Derived.Test.YtceamnigcimldaaGreatDoorEv0
set_option linter.unusedVariables false
set_option linter.unusedSimpArgs false
set_option linter.all false
/- A table of functions; the library's functions that are taken over. -/
namespace Ram
open Go

inductive FT where
  | none
  | one (f : Nat) (af : AFn)
  | node (mid : Nat) (l r : FT)
def FT.get : FT → FuncId → Option AFn
  | .none, _ => Option.none
  | .one g af, f => if g = f then some af else Option.none
  | .node mid l r, f => match Nat.blt f mid with
    | true => l.get f
    | false => r.get f
def FT.ok (P : Program) : FT → Prop
  | .none => True
  | .one g af => compFn P g = some af
  | .node _ l r => l.ok P ∧ r.ok P
theorem FT.sound {P : Program} : ∀ {t : FT}, t.ok P → ∀ f af, t.get f = some af → compFn P f = some af
  | .none, _, _, _, h => by cases h
  | .one g af, ok, f, af', h => by
    simp only [FT.get] at h
    split at h
    · next e => simp only [Option.some.injEq] at h; rw [← e, ← h]; exact ok
    · cases h
  | .node mid l r, ok, f, af, h => by
    simp only [FT.get] at h
    split at h
    · exact FT.sound ok.1 f af h
    · exact FT.sound ok.2 f af h

/-- What a library function tells: the first of some that answers. -/
def libOr (a b : FuncId → List V → AH → Option (AEnd × AH)) : FuncId → List V → AH → Option (AEnd × AH) := fun f vs H => match a f vs H with
  | some r => some r
  | none => b f vs H
theorem libOr_ok {P : Program} {W0 : World} {a b : FuncId → List V → AH → Option (AEnd × AH)} (ha : CallOk P W0 a) (hb : CallOk P W0 b) : CallOk P W0 (libOr a b) := by
  intro f vs H e H' h
  unfold libOr at h
  cases h1 : a f vs H with
  | none => rw [h1] at h; exact hb _ _ _ _ _ h
  | some r => rw [h1] at h; exact ha _ _ _ _ _ (h1.trans h)
def libNo : FuncId → List V → AH → Option (AEnd × AH) := fun _ _ _ => none
theorem libNo_ok {P : Program} {W0 : World} : CallOk P W0 libNo := fun _ _ _ _ _ h => by cases h

/-- A whole number's digits. -/
def libItoa (g : FuncId) : FuncId → List V → AH → Option (AEnd × AH) := fun f vs H => match Nat.beq f g, vs with
  | true, [.i .i64 n] => if -9223372036854775808 ≤ n ∧ n ≤ 9223372036854775807 then some (.ret (.s (Lib.itoa n)), H) else none
  | _, _ => none
theorem libItoa_ok {P : Program} {W0 : World} {g : FuncId} (h : ∀ (n : Int) (H : AH), -9223372036854775808 ≤ n → n ≤ 9223372036854775807 → ACalls P W0 g [.i .i64 n] H fun e H' => e = .ret (.s (Lib.itoa n)) ∧ H = H') : CallOk P W0 (libItoa g) := by
  intro f vs H e H' hh
  unfold libItoa at hh
  split at hh
  · next hf =>
    have := Nat.eq_of_beq_eq_true hf; subst this
    split at hh
    · next hn =>
      simp only [Option.some.injEq, Prod.mk.injEq] at hh
      exact (h _ H hn.1 hn.2).mono fun e' H'' h' => ⟨h'.1.trans hh.1, h'.2.symm.trans hh.2⟩
    · cases hh
  · cases hh

def asStrs : List V → Option (List (List UInt8))
  | [] => some []
  | .s x :: r => match asStrs r with
    | some l => some (x :: l)
    | none => none
  | _ :: _ => none
theorem asStrs_eq : ∀ {cs : List V} {ls : List (List UInt8)}, asStrs cs = some ls → cs = ls.map V.s
  | [], ls, h => by simp only [asStrs, Option.some.injEq] at h; rw [← h]; rfl
  | v :: r, ls, h => by
    cases v <;> simp only [asStrs] at h <;> try (cases h; done)
    split at h
    · next l hl => simp only [Option.some.injEq] at h; rw [← h, List.map_cons, ← asStrs_eq hl]
    · cases h
/-- Texts joined. -/
def libJoin (g : FuncId) : FuncId → List V → AH → Option (AEnd × AH) := fun f vs H => match Nat.beq f g, vs with
  | true, [.sl e (some (id, o)) n c, .s sep] => match H.get id with
    | some (.cells _ cs) => match asStrs ((cs.drop o).take n) with
      | some ls => if n ≤ c ∧ e = 1 ∧ (Lib.join ls sep).length ≤ 140737488355328 ∧ o + c = cs.length ∧ id < H.next ∧ c ≤ 140737488355328 then some (.ret (.s (Lib.join ls sep)), H) else none
      | none => none
    | _ => none
  | true, [.sl _ none 0 0, .s sep] => some (.ret (.s (Lib.join [] sep)), H)
  | _, _ => none
theorem flat_sRow (ls : List (List UInt8)) : (ls.map sRow).flatten = ls.map V.s := by
  induction ls with
  | nil => rfl
  | cons x ls ih => simp [sRow] at ih ⊢; exact ih
theorem libJoin_ok {P : Program} {W0 : World} {g : FuncId} (h : ∀ (v : V) (ls : List (List UInt8)) (sep : List UInt8) (md : Md) (F : Nat → Prop) (H : AH), SlV H md 1 v (ls.map sRow) F → (Lib.join ls sep).length ≤ 140737488355328 → ls.length ≤ 140737488355328 →
    ACalls P W0 g [v, .s sep] H fun e H' => e = .ret (.s (Lib.join ls sep)) ∧ H = H') : CallOk P W0 (libJoin g) := by
  intro f vs H e H' hh
  unfold libJoin at hh
  split at hh
  · next e' id o n c sep hf =>
    have := Nat.eq_of_beq_eq_true hf; subst this
    split at hh
    · next md cs hg =>
      split at hh
      · next ls hls =>
        split at hh
        · next hc =>
          obtain ⟨c1, rfl, c3, c4, c5, c6⟩ := hc
          simp only [Option.some.injEq, Prod.mk.injEq] at hh
          have he := asStrs_eq hls
          have hn : n = ls.length := by
            have := congrArg List.length he
            simp at this; omega
          subst hn
          refine (h (.sl 1 (some (id, o)) ls.length c) ls sep md (fun _ => True) H (.inr ⟨id, o, c, cs, by simp, trivial, hg, c5, by simpa using c1, by simpa using c4, ?_, ?_⟩) c3 (by omega)).mono fun e' H'' h' => ⟨h'.1.trans hh.1, h'.2.symm.trans hh.2⟩
          · rw [flat_sRow, ← he]; simp
          · intro r hr
            obtain ⟨x, _, rfl⟩ := List.mem_map.1 hr
            rfl
        · cases hh
      · cases hh
    · cases hh
  · next e' sep hf =>
    have := Nat.eq_of_beq_eq_true hf; subst this
    simp only [Option.some.injEq, Prod.mk.injEq] at hh
    exact (h (.sl e' none 0 0) [] sep .rw (fun _ => True) H (.inl ⟨rfl, _, rfl⟩) (by simp [Lib.join, List.intercalate]) (by simp)).mono fun e' H'' h' => ⟨h'.1.trans hh.1, h'.2.symm.trans hh.2⟩
  · cases hh

/-- A function that always tells the same. -/
def libSame (g : FuncId) (v : V) : FuncId → List V → AH → Option (AEnd × AH) := fun f vs H => match Nat.beq f g, vs with
  | true, [] => some (.ret v, H)
  | _, _ => none
theorem libSame_ok {P : Program} {W0 : World} {g : FuncId} {v : V} (h : ∀ (H : AH), ACalls P W0 g [] H fun e H' => e = .ret v ∧ H = H') : CallOk P W0 (libSame g v) := by
  intro f vs H e H' hh
  unfold libSame at hh
  split at hh
  · next hf =>
    have := Nat.eq_of_beq_eq_true hf; subst this
    simp only [Option.some.injEq, Prod.mk.injEq] at hh
    exact (h H).mono fun e' H'' h' => ⟨h'.1.trans hh.1, h'.2.symm.trans hh.2⟩
  · cases hh
end Ram
