/- A part of the proof: contracts of functions, over the abstract machine. -/
import Derived.Test.YtmdmabedfleacaaDoorCi7
set_option linter.unusedVariables false
set_option linter.unusedSimpArgs false
set_option linter.all false
namespace Go.Proofs.YtmdmabedfleacaaDoor
open Ram Go

variable {W0 : World} {H : AH}

def exN : Net := ⟨167838211, 8⟩
theorem exN_ok : ∀ n ∈ [exN], n.ok := by
  intro n hn
  simp only [List.mem_singleton] at hn
  subst hn
  exact ⟨by decide, by decide, by decide, by decide⟩
theorem ex_clean : cleanL [exN] = [⟨167772160, 8⟩] := by decide
theorem ex_text : setT false [exN] = [49, 48, 46, 48, 46, 48, 46, 48, 47, 56] := by
  unfold setT
  rw [ex_clean]
  simp [preT, bodyT, netT, dotted, octs, Lib.join, List.intercalate, List.intersperse, itoa_pos, dd0, dd8, dd10]
theorem ex_any : setT false [] = [97, 110, 121] := by decide
theorem ex_has1 : hasS false [exN] 184483840 = true := by decide
theorem ex_has2 : hasS false [exN] 184549376 = false := by decide

/-- awake. -/
theorem f21 (ht : Tab W0) : ACalls Tryd.prog W0 21 [] H fun e H' => e = .ret (.b true) ∧ Grows H H' := by
  refine acalls_in k21 (by simp) ?_
  simp -dsimp [splice]
  obtain ⟨H1, hH1⟩ : ∃ H1, H1 = (H.alloc (.cells .rw (nRow exN))).alloc (.cells .rw [.b false, .sl 2 (some (H.next, 0)) 1 1]) := ⟨_, rfl⟩
  have hsh : (H.alloc (.cells .rw [.i .u32 167838211, .i .i64 8])).alloc (.cells .rw [.b false, .sl 2 (some (H.next, 0)) 1 1]) = H1 := by rw [hH1]; rfl
  rw [hsh]
  have g1 : Grows H H1 := by rw [hH1]; exact Keeps.alloc' (Keeps.alloc' Keeps.refl)
  have gs1 : H1.get (H.next + 1) = some (.cells .rw [.b false, .sl 2 (some (H.next, 0)) 1 1]) := by rw [hH1]; simp
  have ls1 : H.next + 1 < H1.next := by rw [hH1]; simp
  have hs1 : SlV H1 .rw 2 (.sl 2 (some (H.next, 0)) 1 1) ([exN].map nRow) (fun _ => True) := by
    refine .inr ⟨H.next, 0, 1, nRow exN, by simp, trivial, ?_⟩
    have := SlAt.of (H := H1) (md := .rw) (es := 2) (id := H.next) (o := 0) (cap := 1) (rows := [nRow exN]) (A := []) (B := []) (by rw [hH1]; simp) (by omega) (by simp) rfl (by simp) (by simp)
    simpa using this
  refine (f30 ht hs1 (by simp) exN_ok).next ?_
  rw [ex_text]
  rintro H2 h2
  have gs2 := Grows.at h2 ls1 gs1
  have n2 := h2.next
  simp -dsimp [binS, ldCells_of gs2]
  refine (f28 (a := 184483840) (hs1.keep h2 fun _ _ h => h) (by simp) exN_ok (by omega) (by omega)).next ?_
  rw [ex_has1]
  rintro H3 h3
  have gs3 := Grows.at h3 (by omega) gs2
  simp -dsimp [ldCells_of gs3]
  refine (f28 (a := 184549376) (hs1.keep (h2.trans h3) fun _ _ h => h) (by simp) exN_ok (by omega) (by omega)).next ?_
  rw [ex_has2]
  rintro H4 h4
  simp -dsimp
  refine (f30 (l := []) (md := .rw) (F := NoId) ht (.inl ⟨rfl, _, rfl⟩) (by simp) (by simp)).next ?_
  rw [ex_any]
  rintro H5 h5
  simp -dsimp [binS]
  exact fin_mk ⟨rfl, (((g1.trans h2).trans h3).trans h4).trans h5⟩
end Go.Proofs.YtmdmabedfleacaaDoor
