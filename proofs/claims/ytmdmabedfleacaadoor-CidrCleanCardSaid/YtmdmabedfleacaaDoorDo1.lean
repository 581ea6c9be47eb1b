/- A part of the proof: contracts of functions, over the abstract machine. -/
import Derived.Test.YtmdmabedfleacaaDoorDoFn
import Derived.Test.YtmdmabedfleacaaDoorStrL
import Derived.Test.YtmdmabedfleacaaDoorRb0
import Derived.Test.YtmdmabedfleacaaDoorRaD
set_option linter.unusedVariables false
set_option linter.unusedSimpArgs false
set_option linter.all false
namespace Go.Proofs.YtmdmabedfleacaaDoor
open Ram Go
variable {W0 : World} {H : AH}

abbrev Tab (W : World) : Prop := Lib.TabIs Tryd.prog W "internal/strconv.uint64pow10" .u64 Lib.pow10Tab

/-- strconv.Itoa. -/
theorem f35 (ht : Tab W0) {n : Int} (h0 : -9223372036854775808 ≤ n) (h1 : n ≤ 9223372036854775807) : ACalls Tryd.prog W0 35 [.i .i64 n] H fun e H' => e = .ret (.s (Lib.itoa n)) ∧ H = H' :=
  itoa_of ⟨_, Tryd.func35, by kernel_rfl, by kernel_rfl⟩ ht (fun n h0 h1 w ht => Tryd.strconv_Itoa n h0 h1 w ht) h0 h1

/-- strings.Join. -/
theorem f43 {v : V} {ls : List (List UInt8)} {sep : List UInt8} {md : Md} {F : Nat → Prop} (hs : SlV H md 1 v (ls.map sRow) F) (hl : (Lib.join ls sep).length ≤ 140737488355328) (hn : ls.length ≤ 140737488355328) :
    ACalls Tryd.prog W0 43 [v, .s sep] H fun e H' => e = .ret (.s (Lib.join ls sep)) ∧ H = H' :=
  join_of ⟨_, Tryd.func43, by kernel_rfl, by kernel_rfl⟩ (fun a c sep w => Tryd.strings_Join_none a c sep w) (fun bk o c xs sep w h1 h2 h3 h4 h5 => Tryd.strings_Join bk o c xs sep w h1 h2 h3 h4 h5) hs hl hn

def dig (n : Nat) : UInt8 := UInt8.ofNat (48 + n)
theorem digit_at : ∀ n : Fin 10, (([48, 49, 50, 51, 52, 53, 54, 55, 56, 57] : List UInt8).drop n).take 1 = [dig n] := by decide
theorem add_s {a b : List UInt8} (h : (a.length + b.length : Int) ≤ 9223372036854775807) : binS .add a b = some (.s (a ++ b)) := by unfold binS; rw [if_pos h]

theorem dec_small {n : Nat} (h : n < 10) : Lib.decDigits n = [dig n] := by rw [Lib.decDigits, dif_pos h]; rfl
theorem dec_big {n : Nat} (h : ¬ n < 10) : Lib.decDigits n = Lib.decDigits (n / 10) ++ [dig (n % 10)] := by rw [Lib.decDigits, dif_neg h]; rfl
theorem dec_len : ∀ n : Nat, (Lib.decDigits n).length ≤ n + 1
  | n => by
    by_cases h : n < 10
    · rw [dec_small h]; simp
    · rw [dec_big h]
      have := dec_len (n / 10)
      simp; omega
termination_by n => n
decreasing_by omega
theorem dec_len' : ∀ (k n : Nat), n < 10 ^ k → (Lib.decDigits n).length ≤ max k 1
  | 0, n, h => by simp at h; subst h; rw [dec_small (by omega)]; simp
  | k + 1, n, h => by
    by_cases hn : n < 10
    · rw [dec_small hn]; simp
    · rw [dec_big hn]
      have := dec_len' k (n / 10) (by rw [Nat.pow_succ] at h; omega)
      cases k with
      | zero => simp at h; omega
      | succ k => simp at this ⊢; omega

/-- rampartref09.Dec. -/
theorem f44 : ∀ (n : Nat) {H : AH}, n < 9223372036854775808 → ACalls Tryd.prog W0 44 [.i .i64 n] H fun e H' => e = .ret (.s (Lib.decDigits n)) ∧ H = H'
  | n, H, hn => by
    refine acalls_in k44 (by simp) ?_
    by_cases h : n < 10
    · have hi : (n : Int) < 10 := by omega
      have hw : IntKind.i64.wrap ((n : Int) + 1) = (n : Int) + 1 := wrap_i64 (by omega) (by omega)
      have h2 : (0 : Int) ≤ (n : Int) + 1 ∧ (n : Int) + 1 ≤ 10 := by omega
      have h3 : n ≤ n + 1 := by omega
      have h4 : (n : Int) ≤ (n : Int) + 1 := by omega
      have hd : n + 1 - n = 1 := by omega
      have hdig := digit_at ⟨n, h⟩
      simp only at hdig
      simp -dsimp [hi, hw, h2, h3, h4, hd]
      rw [dec_small h, ← hdig]
      exact fin_mk ⟨rfl, rfl⟩
    · have hi : ¬ (n : Int) < 10 := by omega
      have ht : (n : Int).tmod 10 = ((n % 10 : Nat) : Int) := by rw [Int.tmod_eq_emod_of_nonneg (by omega)]; omega
      obtain ⟨q, hq'⟩ : ∃ q, q = n / 10 := ⟨_, rfl⟩
      have hq : IntKind.i64.wrap ((n : Int) / 10) = (q : Int) := by
        have : (n : Int) / 10 = (q : Int) := by omega
        rw [this]; exact wrap_i64 (by omega) (by omega)
      have hm : n % 10 < 10 := Nat.mod_lt _ (by omega)
      obtain ⟨m, hm'⟩ : ∃ m, m = n % 10 := ⟨_, rfl⟩
      rw [← hm'] at ht hm
      have hw : IntKind.i64.wrap ((m : Int) + 1) = (m : Int) + 1 := wrap_i64 (by omega) (by omega)
      have h2 : (0 : Int) ≤ (m : Int) + 1 ∧ (m : Int) + 1 ≤ 10 := by omega
      have h3 : m ≤ m + 1 := by omega
      have h4 : (m : Int) ≤ (m : Int) + 1 := by omega
      have hd : m + 1 - m = 1 := by omega
      have hdig := digit_at ⟨m, hm⟩
      simp only at hdig
      simp -dsimp [hi, ht, hq, hw, h2, h3, h4, hd, hdig]
      refine (f44 q (by omega)).next ?_
      rintro _ rfl
      have hlen : (Lib.decDigits q).length ≤ 19 := by
        have := dec_len' 19 q (by omega)
        omega
      simp -dsimp
      rw [add_s (by simp; omega)]
      simp -dsimp
      rw [dec_big h, ← hm', ← hq']
      exact fin_mk ⟨rfl, rfl⟩
termination_by n => n
decreasing_by omega

theorem has_u32 {a : Int} (h : IntKind.u32.has a) : 0 ≤ a ∧ a < 4294967296 := by
  simp [IntKind.has, IntKind.min, IntKind.max, IntKind.signed, IntKind.bits] at h; omega
theorem wrap_u32 {a : Int} (h0 : 0 ≤ a) (h1 : a < 4294967296) : IntKind.u32.wrap a = a := by
  simp [IntKind.wrap, IntKind.signed, IntKind.bits]; omega

theorem and255 {a : Int} (h : 0 ≤ a) : andI .u32 a 255 = a % 256 := by
  rw [and_eq]
  show IntKind.u32.wrap (BitVec.ofInt 32 a &&& BitVec.ofInt 32 255).toNat = a % 256
  obtain ⟨n, rfl⟩ := Int.eq_ofNat_of_zero_le h
  rw [BitVec.toNat_and]
  have e1 : (BitVec.ofInt 32 (255 : Int)).toNat = 2 ^ 8 - 1 := by decide
  rw [e1, Nat.and_two_pow_sub_one_eq_mod]
  have e2 : (BitVec.ofInt 32 (n : Int)).toNat = n % 2 ^ 32 := by simp [BitVec.toNat_ofInt]
  rw [e2]
  have e3 : n % 2 ^ 32 % 2 ^ 8 = n % 256 := by omega
  rw [e3]
  rw [wrap_u32 (by omega) (by omega)]
  rfl

/-- An address as four numbers. -/
def octs (a : Int) : List (List UInt8) := [Lib.decDigits (a / 16777216 % 256).toNat, Lib.decDigits (a / 65536 % 256).toNat, Lib.decDigits (a / 256 % 256).toNat, Lib.decDigits (a % 256).toNat]
def dotted (a : Int) : List UInt8 := Lib.join (octs a) [46]

theorem itoa_pos {n : Int} (h : 0 ≤ n) : Lib.itoa n = Lib.decDigits n.toNat := by unfold Lib.itoa; rw [if_neg (by omega)]

/-- cidr.Dotted. -/
theorem f32 (ht : Tab W0) {a : Int} (h0 : 0 ≤ a) (h1 : a < 4294967296) : ACalls Tryd.prog W0 32 [.i .u32 a] H fun e H' => e = .ret (.s (dotted a)) ∧ Grows H H' := by
  refine acalls_in k32 (by simp) ?_
  simp -dsimp
  refine awp_round (fun m env H1 => ∃ v3, m ≤ 4 ∧ Grows H H1 ∧ env.get 0 = some (.i .u32 a) ∧ env.get 4 = some (.i .i64 ((m : Int) - 1)) ∧ env.get 3 = some v3 ∧ SlV H1 .rw 1 v3 (((octs a).take (4 - m)).map sRow) (Up NoId H H1)) 4
    ⟨_, by omega, Keeps.refl, by simp, by simp, by simp; rfl, .inl ⟨by simp, _, rfl⟩⟩ ?_
  rintro m env H1 ⟨v3, hm, hgr, e0, e4, e3, hs3⟩
  by_cases hz : 0 < m
  · obtain ⟨j, rfl⟩ : ∃ j, m = j + 1 := ⟨m - 1, by omega⟩
    have hj : ((j + 1 : Nat) : Int) - 1 = j := by omega
    rw [hj] at e4
    have hw8 : IntKind.i64.wrap (8 * (j : Int)) = 8 * (j : Int) := wrap_i64 (by omega) (by omega)
    have hneg : ¬ 8 * (j : Int) < 0 := by omega
    obtain ⟨sh, hsh, hsh0, hsh1, hat⟩ : ∃ sh, a.fdiv (2 ^ min (8 * (j : Int)).toNat IntKind.u32.bits) = sh ∧ 0 ≤ sh ∧ sh < 4294967296 ∧ (octs a)[3 - j]? = some (Lib.decDigits (sh % 256).toNat) := by
      have : j = 0 ∨ j = 1 ∨ j = 2 ∨ j = 3 := by omega
      have e : ∀ d : Int, 0 < d → a.fdiv d = a / d := fun d hd => Int.fdiv_eq_ediv_of_nonneg a (by omega)
      rcases this with rfl | rfl | rfl | rfl
      · exact ⟨a, by simp [IntKind.bits, e], h0, h1, rfl⟩
      · exact ⟨a / 256, by simp [IntKind.bits, e], by omega, by omega, rfl⟩
      · exact ⟨a / 65536, by simp [IntKind.bits, e], by omega, by omega, rfl⟩
      · exact ⟨a / 16777216, by simp [IntKind.bits, e], by omega, by omega, rfl⟩
    have ha := and255 hsh0
    have hwc : IntKind.i64.wrap (sh % 256) = sh % 256 := wrap_i64 (by omega) (by omega)
    have hwj : IntKind.i64.wrap ((j : Int) - 1) = (j : Int) - 1 := wrap_i64 (by omega) (by omega)
    simp -dsimp [e0, e3, e4, hw8, hneg, hsh, ha, hwc]
    refine (f35 ht (n := sh % 256) (by omega) (by omega)).next ?_
    rintro _ rfl
    rw [itoa_pos (by omega)]
    simp -dsimp [e0, e3, e4]
    have hk1 : Grows H1 (H1.alloc (.cells .rw (sRow (Lib.decDigits (sh % 256).toNat)))) := Keeps.alloc' Keeps.refl
    refine (app_row (hs3.keep hk1 fun _ _ h => h) (r := sRow (Lib.decDigits (sh % 256).toNat)) (by simp [sRow]) (by simp [sRow]) (by simp <;> omega) (by simp <;> omega)).mono ?_
    rintro v4 H3 ⟨hs4, hk4⟩
    have hn := hgr.next
    have hn4 := hk4.next
    simp at hn4
    have hgr3 : Grows H H3 := (Keeps.trans hgr hk1).then hk4 fun j hj h => by rcases h with h | h <;> omega
    simp -dsimp [e0, e4, hwj]
    refine hold_mk ⟨j, by omega, v4, by omega, hgr3, by simp [e0], by simp, by simp, ?_⟩
    have : ((octs a).take (4 - (j + 1))).map sRow ++ [sRow (Lib.decDigits (sh % 256).toNat)] = ((octs a).take (4 - j)).map sRow := by
      rw [show 4 - j = (4 - (j + 1)) + 1 by omega, List.take_add_one, show 4 - (j + 1) = 3 - j by omega, hat]; simp
    rw [this] at hs4
    refine hs4.mono fun j hj => ?_
    rcases hj with (h | h) | h
    · exact h.elim
    · exact .inr ⟨h.1, by omega⟩
    · simp at h; exact .inr ⟨by omega, h.2⟩
  · have : m = 0 := by omega
    subst this
    simp -dsimp [e0, e3, e4]
    have hle : ∀ x : Int, 0 ≤ x → x < 256 → (Lib.decDigits x.toNat).length ≤ 3 := fun x hx0 hx => by
      have := dec_len' 3 x.toNat (by omega)
      omega
    have hlen : (Lib.join (octs a) [46]).length ≤ 15 := by
      unfold octs
      simp only [Lib.join, List.intercalate, List.intersperse, List.flatten_cons, List.length_append, List.length_cons, List.flatten_nil, List.length_nil]
      have := hle (a / 16777216 % 256) (by omega) (by omega)
      have := hle (a / 65536 % 256) (by omega) (by omega)
      have := hle (a / 256 % 256) (by omega) (by omega)
      have := hle (a % 256) (by omega) (by omega)
      omega
    refine (f43 (ls := octs a) hs3 (by omega) (by simp [octs])).next ?_
    rintro _ rfl
    simp -dsimp
    exact fin_mk ⟨rfl, hgr⟩
end Go.Proofs.YtmdmabedfleacaaDoor
