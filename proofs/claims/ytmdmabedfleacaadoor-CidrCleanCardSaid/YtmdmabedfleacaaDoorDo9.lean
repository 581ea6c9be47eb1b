/- A part of the proof: contracts of functions, over the abstract machine. -/
import Derived.Test.YtmdmabedfleacaaDoorDo8
set_option linter.unusedVariables false
set_option linter.unusedSimpArgs false
set_option linter.all false
namespace Go.Proofs.YtmdmabedfleacaaDoor
open Ram Go

/-- What digits say. -/
def valD (l : List UInt8) : Nat := l.foldl (fun a c => 10 * a + (c.toNat - 48)) 0
theorem valD_snoc (l : List UInt8) (c : UInt8) : valD (l ++ [c]) = 10 * valD l + (c.toNat - 48) := by unfold valD; rw [List.foldl_append]; rfl
theorem dig_toNat {k : Nat} (h : k < 10) : (dig k).toNat = 48 + k := by
  unfold dig
  rw [UInt8.toNat_ofNat']; omega
theorem valD_dec : ∀ n : Nat, valD (Lib.decDigits n) = n
  | n => by
    by_cases h : n < 10
    · rw [dec_small h]
      show 10 * 0 + ((dig n).toNat - 48) = n
      rw [dig_toNat h]; omega
    · rw [dec_big h, valD_snoc, valD_dec (n / 10), dig_toNat (Nat.mod_lt _ (by omega))]; omega
termination_by n => n
decreasing_by omega
theorem dec_inj {m n : Nat} (h : Lib.decDigits m = Lib.decDigits n) : m = n := by rw [← valD_dec m, h, valD_dec]

/-- Digits alone. -/
theorem dec_mem : ∀ (n : Nat) (c : UInt8), c ∈ Lib.decDigits n → 48 ≤ c.toNat ∧ c.toNat ≤ 57
  | n, c, hc => by
    by_cases h : n < 10
    · rw [dec_small h] at hc
      simp only [List.mem_singleton] at hc
      rw [hc, dig_toNat h]; omega
    · rw [dec_big h] at hc
      rcases List.mem_append.1 hc with hc | hc
      · exact dec_mem (n / 10) c hc
      · simp only [List.mem_singleton] at hc
        rw [hc, dig_toNat (Nat.mod_lt _ (by omega))]; omega
termination_by n => n
decreasing_by omega
theorem dec_pos (n : Nat) : 1 ≤ (Lib.decDigits n).length := by
  by_cases h : n < 10
  · rw [dec_small h]; simp
  · rw [dec_big h]; simp

theorem split_at {c : UInt8} {a a' b b' : List UInt8} (ha : c ∉ a) (ha' : c ∉ a') (h : a ++ c :: b = a' ++ c :: b') : a = a' ∧ b = b' := by
  induction a generalizing a' with
  | nil =>
    cases a' with
    | nil => simpa using h
    | cons y l =>
      simp only [List.nil_append, List.cons_append, List.cons.injEq] at h
      exact (ha' (by rw [h.1]; simp)).elim
  | cons x a ih =>
    cases a' with
    | nil =>
      simp only [List.nil_append, List.cons_append, List.cons.injEq] at h
      exact (ha (by rw [h.1]; simp)).elim
    | cons y l =>
      simp only [List.cons_append, List.cons.injEq] at h
      obtain ⟨h1, h2⟩ := ih (by simp at ha; exact ha.2) (by simp at ha'; exact ha'.2) h.2
      exact ⟨by rw [h.1, h1], h2⟩

theorem dec_not {n : Nat} {c : UInt8} (h : c.toNat < 48 ∨ 57 < c.toNat) : c ∉ Lib.decDigits n := fun hc => by have := dec_mem n c hc; omega

theorem dotted_eq (a : Int) : dotted a = Lib.decDigits (a / 16777216 % 256).toNat ++ 46 :: (Lib.decDigits (a / 65536 % 256).toNat ++ 46 :: (Lib.decDigits (a / 256 % 256).toNat ++ 46 :: Lib.decDigits (a % 256).toNat)) := by
  simp [dotted, octs, Lib.join, List.intercalate, List.intersperse]

theorem dotted_inj {a b : Int} (ha : 0 ≤ a) (ha' : a < 4294967296) (hb : 0 ≤ b) (hb' : b < 4294967296) (h : dotted a = dotted b) : a = b := by
  rw [dotted_eq, dotted_eq] at h
  obtain ⟨h3, h⟩ := split_at (dec_not (by decide)) (dec_not (by decide)) h
  obtain ⟨h2, h⟩ := split_at (dec_not (by decide)) (dec_not (by decide)) h
  obtain ⟨h1, h0⟩ := split_at (dec_not (by decide)) (dec_not (by decide)) h
  have h3 := dec_inj h3
  have h2 := dec_inj h2
  have h1 := dec_inj h1
  have h0 := dec_inj h0
  omega
theorem dotted_not {a : Int} {c : UInt8} (h : c.toNat < 46 ∨ 57 < c.toNat) : c ∉ dotted a := by
  rw [dotted_eq]
  have hc : c ≠ 46 := fun e => by subst e; simp at h
  simp only [List.mem_append, List.mem_cons, not_or]
  exact ⟨dec_not (by omega), hc, dec_not (by omega), hc, dec_not (by omega), hc, dec_not (by omega)⟩
theorem dotted_ge (a : Int) : 7 ≤ (dotted a).length := by
  rw [dotted_eq]
  have h := dec_pos
  have h3 := h (a / 16777216 % 256).toNat
  have h2 := h (a / 65536 % 256).toNat
  have h1 := h (a / 256 % 256).toNat
  have h0 := h (a % 256).toNat
  simp only [List.length_append, List.length_cons]
  omega

structure Tup.nice (t : Tup) : Prop where
  p : t.p = 1 ∨ t.p = 6 ∨ t.p = 17 ∨ t.p = 50
  s0 : 0 ≤ t.s
  s1 : t.s < 4294967296
  d0 : 0 ≤ t.d
  d1 : t.d < 4294967296
  a0 : 0 ≤ t.sp
  a1 : t.sp < 65536
  b0 : 0 ≤ t.dp
  b1 : t.dp < 65536
theorem Tup.nice.ok {t : Tup} (h : t.nice) : t.ok := by
  obtain ⟨p, s0, s1, d0, d1, a0, a1, b0, b1⟩ := h
  exact ⟨by omega, by omega, s0, s1, d0, d1, by omega, by omega, by omega, by omega⟩
theorem Tup.nice.turn {t : Tup} (h : t.nice) : t.turn.nice := by
  obtain ⟨p, s0, s1, d0, d1, a0, a1, b0, b1⟩ := h
  exact ⟨p, d0, d1, s0, s1, b0, b1, a0, a1⟩

theorem ttext_eq {x y : Tup} (hx : x.nice) (hy : y.nice) (hp : x.p = y.p) : ttext x = ttext y ↔ x.s = y.s ∧ x.sp = y.sp ∧ x.d = y.d ∧ x.dp = y.dp := by
  constructor
  · intro h
    unfold ttext at h
    rw [hp] at h
    have h := List.append_cancel_left h
    have h := List.append_cancel_left h
    rw [itoa_pos hx.a0, itoa_pos hx.b0, itoa_pos hy.a0, itoa_pos hy.b0] at h
    simp only [List.singleton_append] at h
    obtain ⟨h1, h⟩ := split_at (dotted_not (by decide)) (dotted_not (by decide)) h
    obtain ⟨h2, h⟩ := split_at (dec_not (by decide)) (dec_not (by decide)) h
    obtain ⟨h3, h4⟩ := split_at (dotted_not (by decide)) (dotted_not (by decide)) h
    have h2 := dec_inj h2
    have h4 := dec_inj h4
    have := hx.a0; have := hx.b0; have := hy.a0; have := hy.b0
    exact ⟨dotted_inj hx.s0 hx.s1 hy.s0 hy.s1 h1, by omega, dotted_inj hx.d0 hx.d1 hy.d0 hy.d1 h3, by omega⟩
  · rintro ⟨h1, h2, h3, h4⟩
    unfold ttext
    rw [hp, h1, h2, h3, h4]
theorem ttext_ge {x : Tup} (hx : x.nice) : 15 < (ttext x).length := by
  unfold ttext
  have := dotted_ge x.s
  have := dotted_ge x.d
  simp only [List.length_append, List.length_cons, List.length_nil]
  omega
theorem ttext_le {x : Tup} (hx : x.ok) : (ttext x).length ≤ 200 := by
  unfold ttext
  have := dotted_len (a := x.s)
  have := dotted_len (a := x.d)
  have := ptext_len hx.p0 hx.p1
  have := Lib.itoa_length_le x.sp hx.a0 hx.a1
  have := Lib.itoa_length_le x.dp hx.b0 hx.b1
  simp only [List.length_append, List.length_cons, List.length_nil]
  omega
end Go.Proofs.YtmdmabedfleacaaDoor
