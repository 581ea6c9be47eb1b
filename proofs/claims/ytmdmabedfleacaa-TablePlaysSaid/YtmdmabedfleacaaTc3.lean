/- A part of the proof: contracts of functions, over the abstract machine. -/
import Derived.Test.YtmdmabedfleacaaTc2
import Derived.Test.YtmdmabedfleacaaTb8
set_option linter.unusedVariables false
set_option linter.unusedSimpArgs false
set_option linter.all false
namespace Go.Proofs.Ytmdmabedfleacaa
open Ram Go

variable {W0 : World} {H : AH}

/-- (*Table).Find, by what the table is. -/
theorem f31D (x : Tup) {tb : Nat} {most ticks now last : Int} {ds : List Fd} {F : Nat → Prop} (h : TRep H tb most ticks now last ds F) : ACalls Try.prog W0 31 [.p (some (tb, 0)), .agg x.c] H fun e H' =>
    e = .ret (.tup [.i .i64 ((foundD ds x).elim 0 (·.id)), .i .i64 ((foundD ds x).elim 0 fun y => sameDir x y.t), .b (foundD ds x).isSome]) ∧ TRep H' tb most ticks now last (touchD ds x now) F ∧ Keeps F H H' := by
  obtain ⟨r, mp, fl, gs, N, h, rfl, hl1, hl2⟩ := h
  refine (f31 x h).mono ?_
  rintro e H2 (⟨hf, he, g2⟩ | ⟨X, y, Y, rfl, hno, hf, he, N2, h2, k2⟩)
  · have hfa : ∀ z ∈ fl, same x z.2.t = false := by
      rw [List.find?_eq_none] at hf
      intro z hz
      have := hf z hz
      simpa using this
    have hfd : foundD (fl.map (·.2)) x = none := by
      unfold foundD
      rw [List.find?_eq_none]
      intro z hz
      obtain ⟨z', hz', rfl⟩ := List.mem_map.1 hz
      simp [hfa z' hz']
    have htd : touchD (fl.map (·.2)) x now = fl.map (·.2) := by
      unfold touchD
      have : (fl.map (·.2)).findIdx? (fun y => same x y.t) = none := by
        rw [List.findIdx?_eq_none_iff]
        intro z hz
        obtain ⟨z', hz', rfl⟩ := List.mem_map.1 hz
        exact hfa z' hz'
      rw [this]
    rw [hfd, htd]
    exact ⟨he, ⟨r, mp, fl, gs, N, h.keep g2 fun _ _ h => h, rfl, hl1, hl2⟩, Grows.keeps g2⟩
  · have hys := List.find?_some hf
    have hfd : foundD ((X ++ y :: Y).map (·.2)) x = some y.2 := by
      unfold foundD
      rw [List.find?_map]
      have : (X ++ y :: Y).find? ((fun z : Fd => same x z.t) ∘ fun z => z.2) = some y := hf
      rw [this]; rfl
    have htd : touchD ((X ++ y :: Y).map (·.2)) x now = (X ++ Y ++ [((y.1, { y.2 with at_ := now }) : Fl)]).map (fun z : Fl => z.2) := by
      rw [List.map_append, List.map_cons, touchD_mid hys]
      · simp
      · intro z hz
        obtain ⟨z', hz', rfl⟩ := List.mem_map.1 hz
        exact hno z' hz'
    rw [hfd, htd]
    refine ⟨he, ⟨r, mp, _, gs, N2, h2, rfl, ?_, hl2⟩, k2⟩
    simp at hl1 ⊢; omega

/-- btoi. -/
theorem f34 (x : Bool) : ACalls Try.prog W0 34 [.b x] H fun e H' => e = .ret (.i .i64 (if x then 1 else 0)) ∧ H = H' := by
  refine acalls_in k34 (by simp) ?_
  cases x <;> simp -dsimp <;> exact fin_mk ⟨rfl, rfl⟩

def ka : Tup := ⟨6, 1, 0, 0, 0⟩
def kb : Tup := ⟨6, 2, 0, 0, 0⟩
def tick2 (k i : Nat) (there : Bool) (touched : Nat) : List Fd := (if i < k then [⟨ka, 1, 0⟩] else []) ++ (if there then [⟨kb, 2, touched⟩] else [])

theorem sortI_length (l : List Int) : (sortI l).length = l.length := by unfold sortI; rw [List.length_mergeSort]

theorem tick2_step {k i touched : Nat} {there : Bool} (hi : i < 1000) (hk : 0 < k) (ht : touched ≤ i) :
    (tick2 k i there touched).filter (fun x => !overT ((i : Int) + 1) k x) = tick2 k (i + 1) (there && decide (i + 1 < k + touched)) touched ∧
    ((tick2 k i there touched).filter (overT ((i : Int) + 1) k)).length = (if i + 1 = k then 1 else 0) + (if there && decide (k + touched ≤ i + 1) then 1 else 0) := by
  have oa : overT ((i : Int) + 1) k ⟨ka, 1, 0⟩ = decide (k ≤ i + 1) := by
    unfold overT; rw [Bool.eq_iff_iff, decide_eq_true_eq, decide_eq_true_eq]; simp only; rw [wrap_i64 (by omega) (by omega)]; omega
  have ob : overT ((i : Int) + 1) k ⟨kb, 2, touched⟩ = decide (k + touched ≤ i + 1) := by
    unfold overT; rw [Bool.eq_iff_iff, decide_eq_true_eq, decide_eq_true_eq]; simp only; rw [wrap_i64 (by omega) (by omega)]; omega
  unfold tick2
  rw [List.filter_append, List.filter_append]
  by_cases h1 : i < k
  · by_cases h2 : i + 1 < k
    · have h3 : ¬ k ≤ i + 1 := by omega
      have h4 : ¬ i + 1 = k := by omega
      cases there
      · simp [h1, h2, List.filter_cons, oa, h3, h4]
      · by_cases h5 : k + touched ≤ i + 1
        · have : ¬ i + 1 < k + touched := by omega
          simp [h1, h2, List.filter_cons, oa, ob, h3, h4, h5, this]
        · have : i + 1 < k + touched := by omega
          simp [h1, h2, List.filter_cons, oa, ob, h3, h4, h5, this]
    · have h3 : k ≤ i + 1 := by omega
      have h4 := eq_true (show i + 1 = k by omega)
      cases there
      · simp [h1, h2, List.filter_cons, oa, h3, h4]
      · by_cases h5 : k + touched ≤ i + 1
        · have : ¬ i + 1 < k + touched := by omega
          simp [h1, h2, List.filter_cons, oa, ob, h3, h4, h5, this]
        · have : i + 1 < k + touched := by omega
          simp [h1, h2, List.filter_cons, oa, ob, h3, h4, h5, this]
  · have h2 : ¬ i + 1 < k := by omega
    have h4 : ¬ i + 1 = k := by omega
    cases there
    · simp [h1, h2, h4]
    · by_cases h5 : k + touched ≤ i + 1
      · have : ¬ i + 1 < k + touched := by omega
        simp [h1, h2, List.filter_cons, ob, h4, h5, this]
      · have : i + 1 < k + touched := by omega
        simp [h1, h2, List.filter_cons, ob, h4, h5, this]
end Go.Proofs.Ytmdmabedfleacaa
