/- A part of the proof: contracts of functions, over the abstract machine. -/
import Derived.Test.YtmdmabedfleacaaDoorCi9
set_option linter.unusedVariables false
set_option linter.unusedSimpArgs false
set_option linter.all false
namespace Go.Proofs.YtmdmabedfleacaaDoor
open Ram Go

variable {W0 : World} {H : AH}

/-- rampartlaw09.copy1. -/
theorem f26 {not : Bool} {v : V} {l : List Net} {md : Md} {F : Nat → Prop} (hs : SlV H md 2 v (l.map nRow) F) (hl : l.length < 1000) : ACalls Tryd.prog W0 26 [.agg [.b not, v]] H fun e H' =>
    ∃ v', e = .ret (.agg [.b not, v']) ∧ SlV H' .rw 2 v' (l.map nRow) (Up NoId H H') ∧ Grows H H' := by
  obtain ⟨e', a', cap', hv⟩ := hs.len
  rw [List.length_map] at hv
  have hone : V.one v = true := by rw [hv]; rfl
  refine acalls_in k26 (by simp) ?_
  obtain ⟨H1, hH1⟩ : ∃ H1, H1 = (H.alloc (.cells .rw [.b not, v])).alloc (.cells .rw [.b false, .sl 0 none 0 0]) := ⟨_, rfl⟩
  have g1 : Grows H H1 := by rw [hH1]; exact Keeps.alloc' (Keeps.alloc' Keeps.refl)
  have n1 : H1.next = H.next + 2 := by rw [hH1]; simp
  have gx : H1.get H.next = some (.cells .rw [.b not, v]) := by rw [hH1]; simp
  have gr : H1.get (H.next + 1) = some (.cells .rw [.b false, .sl 0 none 0 0]) := by rw [hH1]; simp
  simp -dsimp [hone]
  rw [← hH1]
  have hs1 := hs.keep g1 fun _ _ h => h
  refine (app_nil (newCells_of hs1) (fun r hr => by obtain ⟨x, _, rfl⟩ := List.mem_map.1 hr; rfl) (by simp; omega) (by simp; omega)).mono ?_
  rintro v2 H2 ⟨hs2, h2, hful⟩
  have n2 := h2.next
  have gx2 := Grows.at h2 (by omega) gx
  have gr2 := Grows.at h2 (by omega) gr
  obtain ⟨e9, a9, c9, hv9⟩ := hs2.len
  obtain ⟨n9, hn9⟩ : ∃ n, n = (l.map nRow).length := ⟨_, rfl⟩
  rw [← hn9] at hv9
  subst hv9
  simp -dsimp [gx2, gr2, splice]
  refine fin_mk ⟨_, rfl, ?_, Keeps.set_new (g1.trans h2) (by omega)⟩
  have := hs2.keep (G := fun j => j = H.next + 1) (H' := H2.set (H.next + 1) (.cells .rw [.b not, .sl e9 a9 n9 c9])) (Keeps.set fun _ => rfl) fun j hj e => by
    rcases hj with h | h
    · exact h.elim
    · omega
  exact this.mono fun j hj => by
    rcases hj with h | h
    · exact h.elim
    · exact .inr ⟨by omega, by simp; omega⟩

/-- rampartref09.Has. -/
theorem f29 {not : Bool} {v : V} {l : List Net} {md : Md} {F : Nat → Prop} {a : Int} (hs : SlV H md 2 v (l.map nRow) F) (hl : l.length < 4611686018427387904) (hn : ∀ n ∈ l, n.ok) (a0 : 0 ≤ a) (a1 : a < 4294967296) : ACalls Tryd.prog W0 29 [.agg [.b not, v], .i .u32 a] H fun e H' => e = .ret (.b (hasS not l a)) ∧ Grows H H' := by
  obtain ⟨e', a', cap', hv⟩ := hs.len
  rw [List.length_map] at hv
  have hone : V.one v = true := by rw [hv]; rfl
  refine acalls_in k29 (by simp) ?_
  have hk0 : Grows H (H.alloc (.cells .rw [.b not, v])) := Keeps.alloc' Keeps.refl
  simp -dsimp [hone]
  refine (f23 (hs.keep hk0 fun _ _ h => h) hl).next ?_
  rintro H2 h2
  have g2 := hk0.trans h2
  have n2 := h2.next
  simp at n2
  have gx := Grows.at h2 (i := H.next) (o := .cells .rw [.b not, v]) (by simp <;> omega) (by simp)
  cases hok : okSet l
  · simp -dsimp
    exact fin_mk ⟨by simp [hasS, hok], g2⟩
  · have hl4 := okSet_len hok
    have hc0 : ((l.length : Int) = 0) = (l.length = 0) := by rw [eq_iff_iff]; omega
    rw [hv] at gx
    simp -dsimp [gx, hc0]
    refine awp_round (fun m env H1 => ∃ i : Nat, i ≤ l.length ∧ m = l.length - i ∧ Grows H2 H1 ∧ env.get 1 = some (.i .u32 a) ∧ env.get 2 = some (.p (some (H.next, 0))) ∧ env.get 6 = some (.i .i64 i) ∧ env.get 5 = some (.b (decide (l.length = 0) || (l.take i).any fun n => inNet n a))) l.length
      ⟨0, by omega, by omega, Keeps.refl, by simp, by simp, by simp, by simp⟩ ?_
    rintro m env H1 ⟨i, hi, rfl, hgr, e1, e2, e6, e5⟩
    have gx1 := Grows.at hgr (by omega) gx
    by_cases hlt : i < l.length
    · obtain ⟨id, o, cap, cs, hvv, hF, hs, _⟩ := at_row hs hlt
      have hs1 := hs.keep (g2.trans hgr) fun h => h
      have hrowi := hs1.row (i := i) (r := nRow l[i]) (by rw [List.getElem?_map, List.getElem?_eq_getElem hlt]; rfl)
      simp only [nRow] at hrowi
      have hwi := wrap_succ (i := i) (by omega)
      obtain ⟨bi0, bi1⟩ := okSet_at hok hlt
      have ni := hn _ (List.getElem_mem hlt)
      have hta := take_any (p := fun n => inNet n a) hlt
      obtain ⟨acc, hacc⟩ : ∃ acc, acc = (decide (l.length = 0) || (l.take i).any fun n => inNet n a) := ⟨_, rfl⟩
      rw [← hacc] at e5
      have hnx : (decide (l.length = 0) || (l.take (i + 1)).any fun n => inNet n a) = (acc || inNet l[i] a) := by rw [hta, hacc, Bool.or_assoc]
      rw [← hv, hvv] at gx1
      cases acc
      · simp -dsimp [e1, e2, e6, e5, hlt, hrowi, gx1]
        refine (f42 ni bi0 bi1 a0 a1).next ?_
        rintro H3 h3
        simp -dsimp [e1, e2, e6, e5, hwi]
        exact hold_mk ⟨l.length - (i + 1), by omega, i + 1, by omega, rfl, hgr.trans h3, by simp [e1], by simp [e2], by simp, by rw [hnx]; simp⟩
      · simp -dsimp [e1, e2, e6, e5, hlt, hrowi, hwi, gx1]
        exact hold_mk ⟨l.length - (i + 1), by omega, i + 1, by omega, rfl, hgr, by simp [e1], by simp [e2], by simp, by rw [hnx]; simp [e5]⟩
    · rw [List.take_of_length_le (by omega)] at e5
      simp -dsimp [e1, e2, e6, e5, hlt, gx1]
      exact fin_mk ⟨by simp [hasS, hok, bne], g2.trans hgr⟩
end Go.Proofs.YtmdmabedfleacaaDoor
