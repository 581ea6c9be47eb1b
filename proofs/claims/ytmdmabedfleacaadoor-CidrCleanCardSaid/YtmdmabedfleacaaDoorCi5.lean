/- A part of the proof: contracts of functions, over the abstract machine. -/
import Derived.Test.YtmdmabedfleacaaDoorCi4
set_option linter.unusedVariables false
set_option linter.unusedSimpArgs false
set_option linter.all false
namespace Go.Proofs.YtmdmabedfleacaaDoor
open Ram Go

variable {W0 : World} {H : AH}

def goK (x n : Net) (i k : Nat) : Bool := decide (k ≠ i) && (inNet n x.addr && (decide (n.bits < x.bits) || (decide (n.bits = x.bits) && decide (k < i))))
/-- Does the net x, at place i, say nothing? -/
def goesB (l : List Net) (x : Net) (i : Nat) : Bool := l.zipIdx.any fun p => goK x p.1 i p.2

theorem goesB_true {l : List Net} {x : Net} {i k : Nat} (h : k < l.length) (hg : goK x l[k] i k = true) : goesB l x i = true := by
  unfold goesB
  rw [List.any_eq_true]
  exact ⟨(l[k], k), by rw [List.mem_iff_getElem?]; exact ⟨k, by rw [List.getElem?_zipIdx, List.getElem?_eq_getElem h]; simp⟩, hg⟩
theorem goesB_false {l : List Net} {x : Net} {i : Nat} (h : ∀ k (hk : k < l.length), goK x l[k] i k = false) : goesB l x i = false := by
  unfold goesB
  rw [List.any_eq_false]
  rintro ⟨n, k⟩ hm
  rw [List.mem_iff_getElem?] at hm
  obtain ⟨j, hj⟩ := hm
  rw [List.getElem?_zipIdx] at hj
  by_cases hjl : j < l.length
  · rw [List.getElem?_eq_getElem hjl] at hj
    simp at hj
    obtain ⟨rfl, rfl⟩ := hj
    simp [h j hjl]
  · rw [List.getElem?_eq_none (by omega)] at hj; simp at hj

theorem okSet_at {l : List Net} (h : okSet l = true) {i : Nat} (hi : i < l.length) : 0 ≤ l[i].bits ∧ l[i].bits ≤ 32 := by
  unfold okSet at h
  rw [Bool.and_eq_true, List.all_eq_true] at h
  have := h.2 l[i] (List.getElem_mem hi)
  simpa [okBits] using this
theorem okSet_len {l : List Net} (h : okSet l = true) : l.length ≤ 4 := by
  unfold okSet at h
  rw [Bool.and_eq_true] at h
  simpa using h.1

/-- cidr.goes. -/
theorem f37 {v : V} {l : List Net} {md : Md} {F : Nat → Prop} {j : Nat} (hs : SlV H md 2 v (l.map nRow) F) (hok : okSet l = true) (hn : ∀ n ∈ l, n.ok) (hj : j < l.length) : ACalls Tryd.prog W0 37 [v, .i .i64 j] H fun e H' => e = .ret (.b (goesB l l[j] j)) ∧ Grows H H' := by
  have hl4 := okSet_len hok
  obtain ⟨e', a', cap', hv⟩ := hs.len
  rw [List.length_map] at hv
  refine acalls_in k37 (by simp) ?_
  rcases hs with ⟨hnil, _⟩ | ⟨id, o, cap, cs, hvv, hF, hs⟩
  · simp only [List.map_eq_nil_iff] at hnil; subst hnil; simp at hj
  rw [List.length_map] at hvv
  have hrow := hs.row (i := j) (r := nRow l[j]) (by rw [List.getElem?_map, List.getElem?_eq_getElem hj]; rfl)
  simp only [nRow] at hrow
  simp -dsimp [hvv, hj, hrow]
  refine awp_round (fun m env H1 => ∃ i : Nat, i ≤ l.length ∧ m = l.length - i ∧ Grows (H.alloc (.cells .rw (nRow l[j]))) H1 ∧ env.get 1 = some (.i .i64 j) ∧ env.get 5 = some (.p (some (H.next, 0))) ∧ env.get 12 = some v ∧ env.get 13 = some (.i .i64 l.length) ∧ env.get 14 = some (.i .i64 i) ∧
    ∀ k (hk : k < l.length), k < i → goK l[j] l[k] j k = false) l.length
    ⟨0, by omega, by omega, Keeps.refl, by simp, by simp, by simp [hvv], by simp, by simp, by intros; omega⟩ ?_
  rintro m env H1 ⟨i, hi, rfl, hgr, e1, e5, e12, e13, e14, hno⟩
  have hk0 : Grows H (H.alloc (.cells .rw (nRow l[j]))) := Keeps.alloc' Keeps.refl
  have gx := Grows.at hgr (i := H.next) (o := .cells .rw (nRow l[j])) (by simp <;> omega) (by simp)
  have nx : H.next < H1.next := by have := hgr.next; simp at this; omega
  simp only [nRow] at gx
  by_cases hlt : i < l.length
  · have hs1 := hs.keep (hk0.trans hgr) fun h => h
    have hrowi := hs1.row (i := i) (r := nRow l[i]) (by rw [List.getElem?_map, List.getElem?_eq_getElem hlt]; rfl)
    simp only [nRow] at hrowi
    have hwi : IntKind.i64.wrap ((i : Int) + 1) = (i : Int) + 1 := wrap_i64 (by omega) (by omega)
    obtain ⟨bi0, bi1⟩ := okSet_at hok hlt
    obtain ⟨bj0, bj1⟩ := okSet_at hok hj
    have ni := hn _ (List.getElem_mem hlt)
    have nj := hn _ (List.getElem_mem hj)
    have ne1 : ¬ H.next = H1.next := by omega
    have ne2 : ¬ H1.next = H.next := by omega
    have next : ∀ {H2 : AH}, goK l[j] l[i] j i = false → ∀ k (hk : k < l.length), k < i + 1 → goK l[j] l[k] j k = false := fun {_} h k hk hki => by
      by_cases e : k = i
      · subst e; exact h
      · exact hno k hk (by omega)
    by_cases hij : i = j
    · have hij1 := eq_true hij
      have hij' := eq_true (show (i : Int) = j by omega)
      simp -dsimp [e1, e5, e12, e13, e14, hvv, hlt, hrowi, hij', hij1, hwi]
      exact hold_mk ⟨l.length - (i + 1), by omega, i + 1, by omega, rfl, Keeps.alloc' hgr, by simp [e1], by simp [e5], by simp [e12, hvv], by simp [e13], by simp, next (H2 := H1) (by simp [goK, hij])⟩
    · have hij' : ¬ (i : Int) = j := by omega
      simp -dsimp [e1, e5, e12, e13, e14, hvv, hlt, hrowi, hij', gx, ne1, ne2]
      refine (f41 ni bi0 bi1 nj.a0 nj.a1).next ?_
      rintro H2 h2
      have n2 := h2.next
      simp at n2
      have gy := Grows.at h2 (i := H1.next) (o := .cells .rw (nRow l[i])) (by simp <;> omega) (by simp)
      have gx2 := Grows.at h2 (i := H.next) (by simp <;> omega) (show (H1.alloc _).get H.next = _ by rw [AH.get_alloc, if_neg ne1]; exact gx)
      have g2 : Grows (H.alloc (.cells .rw (nRow l[j]))) H2 := (Keeps.alloc' hgr).trans h2
      simp only [nRow] at gy
      cases hin : inNet l[i] l[j].addr
      · simp -dsimp [e1, e5, e12, e13, e14, hvv, hlt, hwi]
        exact hold_mk ⟨l.length - (i + 1), by omega, i + 1, by omega, rfl, g2, by simp [e1], by simp [e5], by simp [e12, hvv], by simp [e13], by simp, next (H2 := H1) (by simp [goK, hin])⟩
      · by_cases hb : l[i].bits < l[j].bits
        · simp -dsimp [e1, e5, e12, e13, e14, hvv, hlt, hwi, gy, gx2, hb]
          exact fin_mk ⟨by rw [goesB_true hlt (by simp [goK, hij, hin, hb])], hk0.trans g2⟩
        · by_cases hb2 : l[i].bits = l[j].bits
          · have hb2' := eq_true hb2
            by_cases hc : i < j
            · simp -dsimp [e1, e5, e12, e13, e14, hvv, hlt, hwi, gy, gx2, hb, hb2', hc]
              exact fin_mk ⟨by rw [goesB_true hlt (by simp [goK, hij, hin, hb2, hc])], hk0.trans g2⟩
            · simp -dsimp [e1, e5, e12, e13, e14, hvv, hlt, hwi, gy, gx2, hb, hb2', hc]
              exact hold_mk ⟨l.length - (i + 1), by omega, i + 1, by omega, rfl, g2, by simp [e1], by simp [e5], by simp [e12, hvv], by simp [e13], by simp, next (H2 := H1) (by simp [goK, hc, hb2])⟩
          · simp -dsimp [e1, e5, e12, e13, e14, hvv, hlt, hwi, gy, gx2, hb, hb2]
            exact hold_mk ⟨l.length - (i + 1), by omega, i + 1, by omega, rfl, g2, by simp [e1], by simp [e5], by simp [e12, hvv], by simp [e13], by simp, next (H2 := H1) (by simp [goK, hb, hb2])⟩
  · simp -dsimp [e1, e5, e12, e13, e14, hlt]
    exact fin_mk ⟨by rw [goesB_false fun k hk => hno k hk (by omega)], hk0.trans hgr⟩

/-- What a set has. -/
def hasS (not : Bool) (l : List Net) (a : Int) : Bool := okSet l && ((decide (l.length = 0) || l.any fun n => inNet n a) != not)

theorem take_any {l : List Net} {p : Net → Bool} {i : Nat} (h : i < l.length) : (l.take (i + 1)).any p = ((l.take i).any p || p l[i]) := by
  rw [List.take_add_one, List.getElem?_eq_getElem h, List.any_append]; simp

/-- cidr.Has. -/
theorem f28 {not : Bool} {v : V} {l : List Net} {md : Md} {F : Nat → Prop} {a : Int} (hs : SlV H md 2 v (l.map nRow) F) (hl : l.length < 4611686018427387904) (hn : ∀ n ∈ l, n.ok) (a0 : 0 ≤ a) (a1 : a < 4294967296) : ACalls Tryd.prog W0 28 [.agg [.b not, v], .i .u32 a] H fun e H' => e = .ret (.b (hasS not l a)) ∧ Grows H H' := by
  obtain ⟨e', a', cap', hv⟩ := hs.len
  rw [List.length_map] at hv
  have hone : V.one v = true := by rw [hv]; rfl
  refine acalls_in k28 (by simp) ?_
  have hk0 : Grows H (H.alloc (.cells .rw [.b not, v])) := Keeps.alloc' Keeps.refl
  simp -dsimp [hone]
  refine (f22 (hs.keep hk0 fun _ _ h => h) hl).next ?_
  rintro H2 h2
  have g2 := hk0.trans h2
  have n2 := h2.next
  simp at n2
  have gx := Grows.at h2 (i := H.next) (o := .cells .rw [.b not, v]) (by simp <;> omega) (by simp)
  cases hok : okSet l
  · simp -dsimp
    exact fin_mk ⟨by simp [hasS, hok], g2⟩
  · have hl4 := okSet_len hok
    have hc0 : ((l.length : Int) = 0) = (l.length = 0) := by rw [eq_iff_iff]; omega
    simp -dsimp [gx, hv, hc0]
    refine awp_round (fun m env H1 => ∃ i : Nat, i ≤ l.length ∧ m = l.length - i ∧ Grows H2 H1 ∧ env.get 1 = some (.i .u32 a) ∧ env.get 2 = some (.p (some (H.next, 0))) ∧ env.get 16 = some v ∧ env.get 17 = some (.i .i64 l.length) ∧ env.get 18 = some (.i .i64 i) ∧ env.get 5 = some (.b (decide (l.length = 0) || (l.take i).any fun n => inNet n a))) l.length
      ⟨0, by omega, by omega, Keeps.refl, by simp, by simp, by simp [hv], by simp, by simp, by simp⟩ ?_
    rintro m env H1 ⟨i, hi, rfl, hgr, e1, e2, e16, e17, e18, e5⟩
    have gx1 := Grows.at hgr (by omega) gx
    by_cases hlt : i < l.length
    · rcases hs with ⟨hnil, _⟩ | ⟨id, o, cap, cs, hvv, hF, hs⟩
      · simp only [List.map_eq_nil_iff] at hnil; subst hnil; simp at hlt
      rw [List.length_map] at hvv
      have hs1 := hs.keep (g2.trans hgr) fun h => h
      have hrowi := hs1.row (i := i) (r := nRow l[i]) (by rw [List.getElem?_map, List.getElem?_eq_getElem hlt]; rfl)
      simp only [nRow] at hrowi
      have hwi : IntKind.i64.wrap ((i : Int) + 1) = (i : Int) + 1 := wrap_i64 (by omega) (by omega)
      obtain ⟨bi0, bi1⟩ := okSet_at hok hlt
      have ni := hn _ (List.getElem_mem hlt)
      have hta := take_any (p := fun n => inNet n a) hlt
      obtain ⟨acc, hacc⟩ : ∃ acc, acc = (decide (l.length = 0) || (l.take i).any fun n => inNet n a) := ⟨_, rfl⟩
      rw [← hacc] at e5
      have hnx : (decide (l.length = 0) || (l.take (i + 1)).any fun n => inNet n a) = (acc || inNet l[i] a) := by rw [hta, hacc, Bool.or_assoc]
      cases acc
      · simp -dsimp [e1, e2, e16, e17, e18, e5, hvv, hlt, hrowi]
        refine (f41 ni bi0 bi1 a0 a1).next ?_
        rintro H3 h3
        simp -dsimp [e1, e2, e16, e17, e18, e5, hwi]
        exact hold_mk ⟨l.length - (i + 1), by omega, i + 1, by omega, rfl, (Keeps.alloc' hgr).trans h3, by simp [e1], by simp [e2], by simp [e16, hvv], by simp [e17], by simp, by rw [hnx]; simp⟩
      · simp -dsimp [e1, e2, e16, e17, e18, e5, hvv, hlt, hrowi, hwi]
        exact hold_mk ⟨l.length - (i + 1), by omega, i + 1, by omega, rfl, Keeps.alloc' hgr, by simp [e1], by simp [e2], by simp [e16, hvv], by simp [e17], by simp, by rw [hnx]; simp [e5]⟩
    · rw [List.take_of_length_le (by omega)] at e5
      simp -dsimp [e1, e2, e16, e17, e18, e5, hlt, gx1]
      exact fin_mk ⟨by simp [hasS, hok, bne], g2.trans hgr⟩
end Go.Proofs.YtmdmabedfleacaaDoor
