/- A part of the proof: contracts of functions, over the abstract machine. -/
import Derived.Test.YtmdmabedfleacaaDoorCi16
set_option linter.unusedVariables false
set_option linter.unusedSimpArgs false
set_option linter.all false
namespace Go.Proofs.YtmdmabedfleacaaDoor
open Ram Go

theorem pow_split {j k : Nat} (h : j ≤ k) (hk : k ≤ 32) : (2 : Int) ^ (32 - j) = 2 ^ (32 - k) * 2 ^ (k - j) := by
  rw [← Int.pow_add]; congr 1; omega
theorem top_le {a b : Int} {j k : Nat} (hj : j ≤ k) (hk : k ≤ 32) (h : top k a = top k b) : top j a = top j b := by
  unfold top at *
  rw [pow_split hj hk, ← Int.ediv_ediv_of_nonneg (Int.le_of_lt (Int.pow_pos (by decide))), ← Int.ediv_ediv_of_nonneg (Int.le_of_lt (Int.pow_pos (by decide))), h]
theorem top_cut {a : Int} {j k : Nat} (hj : j ≤ k) (hk : k ≤ 32) : top j (top k a * 2 ^ (32 - k)) = top j a := by
  refine top_le hj hk ?_
  have hp : (2 : Int) ^ (32 - k) ≠ 0 := Int.ne_of_gt (Int.pow_pos (by decide))
  show top k a * 2 ^ (32 - k) / 2 ^ (32 - k) = top k a
  exact Int.mul_ediv_cancel _ hp

/-- Bits as a number. -/
theorem bits_nat {n : Net} (h : okBits n = true) : ∃ k : Nat, n.bits = k ∧ k ≤ 32 := by
  simp [okBits] at h
  exact ⟨n.bits.toNat, by omega, by omega⟩
def cov (m n : Net) : Prop := m.bits ≤ n.bits ∧ inNet m n.addr = true
theorem in_cut {n : Net} (h : okBits n = true) (a : Int) : inNet (cut1 n) a = inNet n a := by
  obtain ⟨k, hk, hk32⟩ := bits_nat h
  unfold inNet cut1
  simp only [hk, Int.toNat_natCast]
  rw [top_cut (Nat.le_refl _) hk32]
theorem cov_cut {m n : Net} (hm : okBits m = true) (hn : okBits n = true) : cov (cut1 m) (cut1 n) ↔ cov m n := by
  unfold cov
  rw [in_cut hm]
  obtain ⟨j, hj, hj32⟩ := bits_nat hm
  obtain ⟨k, hk, hk32⟩ := bits_nat hn
  have : (cut1 n).bits = n.bits := rfl
  rw [this]
  have : (cut1 m).bits = m.bits := rfl
  rw [this]
  constructor
  · rintro ⟨h1, h2⟩
    refine ⟨h1, ?_⟩
    have hjk : j ≤ k := by omega
    unfold inNet cut1 at *
    simp only [hj, hk, Int.toNat_natCast] at *
    rwa [top_cut hjk hk32] at h2
  · rintro ⟨h1, h2⟩
    refine ⟨h1, ?_⟩
    have hjk : j ≤ k := by omega
    unfold inNet cut1 at *
    simp only [hj, hk, Int.toNat_natCast] at *
    rwa [top_cut hjk hk32]
theorem cov_in {m n : Net} (hm : okBits m = true) (hn : okBits n = true) (h : cov m n) {a : Int} (ha : inNet n a = true) : inNet m a = true := by
  obtain ⟨j, hj, hj32⟩ := bits_nat hm
  obtain ⟨k, hk, hk32⟩ := bits_nat hn
  obtain ⟨h1, h2⟩ := h
  have hjk : j ≤ k := by omega
  unfold inNet at *
  simp only [hj, hk, Int.toNat_natCast, decide_eq_true_eq] at *
  rw [top_le hjk hk32 ha, h2]
theorem cov_symm {m n : Net} (h : m.bits = n.bits) (hc : cov m n) : cov n m := by
  obtain ⟨_, h2⟩ := hc
  refine ⟨by omega, ?_⟩
  unfold inNet at *
  rw [← h]
  simp only [decide_eq_true_eq] at *
  exact h2.symm
theorem goK_iff {x n : Net} {i k : Nat} : goK x n i k = true ↔ k ≠ i ∧ cov n x ∧ (n.bits < x.bits ∨ k < i) := by
  unfold goK cov
  simp only [Bool.and_eq_true, Bool.or_eq_true, decide_eq_true_eq]
  constructor
  · rintro ⟨h1, h2, h3⟩
    refine ⟨h1, ⟨?_, h2⟩, ?_⟩
    · rcases h3 with h | ⟨h, _⟩ <;> omega
    · rcases h3 with h | ⟨_, h⟩
      · exact .inl h
      · exact .inr h
  · rintro ⟨h1, ⟨h2, h3⟩, h4⟩
    refine ⟨h1, h3, ?_⟩
    by_cases hb : n.bits = x.bits
    · rcases h4 with h | h
      · omega
      · exact .inr ⟨hb, h⟩
    · exact .inl (by omega)

theorem okSet_mem {l : List Net} (h : okSet l = true) {n : Net} (hn : n ∈ l) : okBits n = true := by
  unfold okSet at h
  rw [Bool.and_eq_true, List.all_eq_true] at h
  exact h.2 n hn
theorem cleanTo_eq (l : List Net) : cleanTo l l.length = (l.zipIdx.filter fun p => !goesB l p.1 p.2).map fun p => cut1 p.1 := by
  unfold cleanTo; rw [List.take_length]
theorem mem_clean {l : List Net} (hok : okSet l = true) {c : Net} : c ∈ cleanL l ↔ ∃ i, ∃ hi : i < l.length, goesB l l[i] i = false ∧ c = cut1 l[i] := by
  unfold cleanL
  rw [hok]
  simp only [if_true]
  rw [cleanTo_eq, List.mem_map]
  constructor
  · rintro ⟨⟨n, i⟩, hp, rfl⟩
    rw [List.mem_filter] at hp
    obtain ⟨h1, h2⟩ := hp
    rw [List.mem_iff_getElem?] at h1
    obtain ⟨j, hj⟩ := h1
    rw [List.getElem?_zipIdx] at hj
    cases hl : l[j]? with
    | none => rw [hl] at hj; simp at hj
    | some m =>
      rw [hl] at hj
      simp at hj
      obtain ⟨rfl, rfl⟩ := hj
      obtain ⟨hlt, he⟩ := List.getElem?_eq_some_iff.1 hl
      exact ⟨j, hlt, by simpa [he] using h2, by simp [he]⟩
  · rintro ⟨i, hi, hg, rfl⟩
    refine ⟨(l[i], i), List.mem_filter.2 ⟨?_, by simp [hg]⟩, rfl⟩
    rw [List.mem_iff_getElem?]
    exact ⟨i, by rw [List.getElem?_zipIdx, List.getElem?_eq_getElem hi]; simp⟩

/-- The least one of some. -/
theorem least {p : Nat → Prop} [DecidablePred p] (f : Nat → Int) : ∀ n : Nat, (∃ i, i < n ∧ p i) → ∃ i, i < n ∧ p i ∧ ∀ k, k < n → p k → f i < f k ∨ (f i = f k ∧ i ≤ k)
  | 0, ⟨i, hi, _⟩ => by omega
  | n + 1, ⟨i, hi, hp⟩ => by
    by_cases h : ∃ i, i < n ∧ p i
    · obtain ⟨m, hm, hpm, hl⟩ := least f n h
      by_cases hn : p n ∧ f n < f m
      · refine ⟨n, by omega, hn.1, fun k hk hpk => ?_⟩
        by_cases e : k = n
        · subst e; exact .inr ⟨rfl, by omega⟩
        · rcases hl k (by omega) hpk with h | ⟨h, _⟩ <;> left <;> omega
      · refine ⟨m, by omega, hpm, fun k hk hpk => ?_⟩
        by_cases e : k = n
        · subst e
          have : ¬ f k < f m := fun h => hn ⟨hpk, h⟩
          by_cases h2 : f m < f k
          · exact .inl h2
          · exact .inr ⟨by omega, by omega⟩
        · exact hl k (by omega) hpk
    · have : i = n := by
        by_cases e : i = n
        · exact e
        · exact (h ⟨i, by omega, hp⟩).elim
      subst this
      refine ⟨i, by omega, hp, fun k hk hpk => ?_⟩
      by_cases e : k = i
      · subst e; exact .inr ⟨rfl, by omega⟩
      · exact (h ⟨k, by omega, hpk⟩).elim

/-- What a set has, a clean one has. -/
theorem clean_in {l : List Net} (hok : okSet l = true) (a : Int) : (cleanL l).any (fun n => inNet n a) = l.any (fun n => inNet n a) := by
  rw [Bool.eq_iff_iff, List.any_eq_true, List.any_eq_true]
  constructor
  · rintro ⟨c, hc, ha⟩
    obtain ⟨i, hi, _, rfl⟩ := (mem_clean hok).1 hc
    exact ⟨l[i], List.getElem_mem hi, by rwa [in_cut (okSet_mem hok (List.getElem_mem hi))] at ha⟩
  · rintro ⟨n, hn, ha⟩
    obtain ⟨j, hj, rfl⟩ := List.getElem_of_mem hn
    obtain ⟨i, hi, hpi, hl⟩ := least (p := fun i => ∃ h : i < l.length, inNet l[i] a = true) (fun i => if h : i < l.length then l[i].bits else 0) l.length ⟨j, hj, hj, ha⟩
    obtain ⟨_, hia⟩ := hpi
    refine ⟨cut1 l[i], (mem_clean hok).2 ⟨i, hi, ?_, rfl⟩, by rwa [in_cut (okSet_mem hok (List.getElem_mem hi))]⟩
    refine goesB_false fun k hk => ?_
    cases hg : goK l[i] l[k] i k with
    | false => rfl
    | true =>
      obtain ⟨h1, h2, h3⟩ := goK_iff.1 hg
      have hka := cov_in (okSet_mem hok (List.getElem_mem hk)) (okSet_mem hok (List.getElem_mem hi)) h2 hia
      have := hl k hk ⟨hk, hka⟩
      simp only [hi, hk, dif_pos] at this
      have := h2.1
      omega
theorem clean_none {l : List Net} (hok : okSet l = true) : (cleanL l).length = 0 ↔ l.length = 0 := by
  constructor
  · intro h
    by_cases hl : l.length = 0
    · exact hl
    · have h0 : 0 < l.length := by omega
      have := clean_in hok l[0].addr
      have hself : l.any (fun n => inNet n l[0].addr) = true := by
        rw [List.any_eq_true]
        exact ⟨l[0], List.getElem_mem h0, by simp [inNet]⟩
      rw [hself, List.eq_nil_of_length_eq_zero h] at this
      simp at this
  · intro h
    have := List.eq_nil_of_length_eq_zero h
    subst this
    rfl
theorem clean_has {l : List Net} (hok : okSet l = true) {not : Bool} {a : Int} (hokc : okSet (cleanL l) = true) : hasS not (cleanL l) a = hasS not l a := by
  unfold hasS
  rw [hok, hokc, clean_in hok]
  have : decide ((cleanL l).length = 0) = decide (l.length = 0) := by rw [decide_eq_decide]; exact clean_none hok
  rw [this]
theorem okSet_clean {l : List Net} (hok : okSet l = true) : okSet (cleanL l) = true := by
  unfold okSet
  rw [Bool.and_eq_true, List.all_eq_true]
  refine ⟨by simpa using clean_len l, fun c hc => ?_⟩
  obtain ⟨i, hi, _, rfl⟩ := (mem_clean hok).1 hc
  exact (show okBits l[i] = true from okSet_mem hok (List.getElem_mem hi))

/-- No net of a clean set has another one in it. -/
theorem clean_apart {l : List Net} (hok : okSet l = true) : (cleanL l).Pairwise fun x y => ¬ cov x y ∧ ¬ cov y x := by
  unfold cleanL
  rw [hok]
  simp only [if_true]
  rw [cleanTo_eq, List.pairwise_map]
  have hb : (l.zipIdx).Pairwise fun p q => p.2 < q.2 := by
    rw [List.pairwise_iff_getElem]
    intro i j hi hj hij
    simp only [List.getElem_zipIdx]
    omega
  have hmem : ∀ p ∈ l.zipIdx, ∃ h : p.2 < l.length, p.1 = l[p.2] := by
    rintro ⟨n, i⟩ hp
    rw [List.mem_iff_getElem?] at hp
    obtain ⟨j, hj⟩ := hp
    rw [List.getElem?_zipIdx] at hj
    cases hl : l[j]? with
    | none => rw [hl] at hj; simp at hj
    | some m =>
      rw [hl] at hj
      simp at hj
      obtain ⟨rfl, rfl⟩ := hj
      obtain ⟨hlt, he⟩ := List.getElem?_eq_some_iff.1 hl
      exact ⟨hlt, he.symm⟩
  refine ((hb.filter _).imp_of_mem fun {p q} hp hq hlt => ?_)
  rw [List.mem_filter] at hp hq
  obtain ⟨hp1, hp2⟩ := hp
  obtain ⟨hq1, hq2⟩ := hq
  obtain ⟨pl, pe⟩ := hmem p hp1
  obtain ⟨ql, qe⟩ := hmem q hq1
  have okp := okSet_mem hok (List.getElem_mem pl)
  have okq := okSet_mem hok (List.getElem_mem ql)
  rw [pe] at hp2 ⊢
  rw [qe] at hq2 ⊢
  rw [cov_cut okp okq, cov_cut okq okp]
  have np : ∀ k (hk : k < l.length), goK l[p.2] l[k] p.2 k ≠ true := fun k hk h => by rw [goesB_true hk h] at hp2; simp at hp2
  have nq : ∀ k (hk : k < l.length), goK l[q.2] l[k] q.2 k ≠ true := fun k hk h => by rw [goesB_true hk h] at hq2; simp at hq2
  have h1 : ¬ cov l[p.2] l[q.2] := fun hc => nq p.2 pl (goK_iff.2 ⟨by omega, hc, .inr hlt⟩)
  refine ⟨h1, fun hc => ?_⟩
  by_cases hbits : l[q.2].bits = l[p.2].bits
  · exact h1 (cov_symm hbits hc)
  · exact np q.2 ql (goK_iff.2 ⟨by omega, hc, .inl (by have := hc.1; omega)⟩)

theorem cut_cut {n : Net} (h : okBits n = true) : cut1 (cut1 n) = cut1 n := by
  obtain ⟨k, hk, hk32⟩ := bits_nat h
  have e : (cut1 n).bits = k := hk
  unfold cut1 at *
  simp only [hk, Int.toNat_natCast] at *
  rw [top_cut (Nat.le_refl _) hk32]
/-- Clean again it is the same. -/
theorem clean_again {l : List Net} (hok : okSet l = true) : cleanL (cleanL l) = cleanL l := by
  have hokc := okSet_clean hok
  have hap := clean_apart hok
  have hcut : ∀ c ∈ cleanL l, cut1 c = c := by
    intro c hc
    obtain ⟨i, hi, _, rfl⟩ := (mem_clean hok).1 hc
    exact cut_cut (okSet_mem hok (List.getElem_mem hi))
  obtain ⟨c, hc⟩ : ∃ c, c = cleanL l := ⟨_, rfl⟩
  rw [← hc] at hokc hap hcut ⊢
  unfold cleanL
  rw [hokc]
  simp only [if_true]
  rw [cleanTo_eq]
  have hall : ∀ p ∈ c.zipIdx, (!goesB c p.1 p.2) = true := by
    rintro ⟨n, i⟩ hp
    rw [List.mem_iff_getElem?] at hp
    obtain ⟨j, hj⟩ := hp
    rw [List.getElem?_zipIdx] at hj
    cases hl : c[j]? with
    | none => rw [hl] at hj; simp at hj
    | some m =>
      rw [hl] at hj
      simp at hj
      obtain ⟨rfl, rfl⟩ := hj
      obtain ⟨hlt, he⟩ := List.getElem?_eq_some_iff.1 hl
      subst he
      simp only [Bool.not_eq_true']
      refine goesB_false fun k hk => ?_
      cases hg : goK c[j] c[k] j k with
      | false => rfl
      | true =>
        obtain ⟨h1, h2, _⟩ := goK_iff.1 hg
        rw [List.pairwise_iff_getElem] at hap
        rcases Nat.lt_or_gt_of_ne h1 with h | h
        · exact ((hap k j hk hlt h).1 h2).elim
        · exact ((hap j k hlt hk h).2 h2).elim
  rw [List.filter_eq_self.2 hall]
  have : c.zipIdx.map (fun p => cut1 p.1) = (c.zipIdx.map Prod.fst).map cut1 := by rw [List.map_map]; rfl
  rw [this, List.zipIdx_map_fst]
  exact (List.map_congr_left hcut).trans (List.map_id _)
end Go.Proofs.YtmdmabedfleacaaDoor
