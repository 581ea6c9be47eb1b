/- A part of the proof: contracts of functions, over the abstract machine. -/
import Derived.Test.YtjaammiblfndaaaGreatDoorRbc
import Derived.Shelf.Lays7
set_option linter.unusedVariables false
set_option linter.unusedSimpArgs false
set_option linter.all false
/- strings.Builder as an object: Write, String, Len in the world. -/
set_option linter.unusedVariables false
namespace Ram
open Go Go.Shelf Go.Proofs Go.RowKit
variable {P : Program} {ρ ρ' : Ren} {w : World}

set_option maxHeartbeats 2000000 in
set_option maxRecDepth 100000 in
/-- (*strings.Builder).Write, of a row that is not nil. -/
theorem bw_Write (L : Lays7.n35 P ρ) (L' : Lays.n240 P ρ') (X : Builder.Extra P ρ') (hf : ρ.f 52 = ρ'.f 240) (h72 : ρ.t 59 = ρ'.t 72) (h5 : ρ.t 5 = ρ'.t 5)
    {b n : Nat} {p v : Value} {xs : List Value} (hb : w.heap[b]? = some (.cells #[p, v] (ρ.t 59) (0, 0))) (hp : p = .pointer none ∨ p = .pointer (some ⟨b, 0, none⟩)) (hown : w.ownsRowF 0 (ρ.t 5) 1 v n xs) (hne : v.ownBlock ≠ some b)
    {ad : Addr} {m c : Nat} {news : List Value} (hl : news.length = m) (hadl : ad.block < w.heap.size) (hadb : ad.block ≠ b) (hnews : ∀ j u, news[j]? = some u → w.cell? (ad.add j) = some u) (h1 : ∀ u ∈ news, u.oneCell' = true) (hlen : n + m ≤ 140737488355328) :
    Calls P (ρ.f 35) #[.pointer (some ⟨b, 0, none⟩), .slice (some ad) m c] w fun e w' => e = .returned (.tuple #[.int .i64 m, .nilIface]) ∧ Wrote (ρ.t 59) (ρ.t 5) b v (n + m) (xs ++ news) w w' := by
  have hib := X.infoByte
  have hv5 := X.v5
  have cC := fun (hb : w.heap[b]? = some (.cells #[p, v] (ρ'.t 72) (0, 0))) => bw_copy L' X.toX72 hb hp
  rw [← h72, ← hf] at cC
  rw [← h5] at hib hv5
  clear hf h72 h5 X L'
  obtain ⟨i0, hi, hz0, hz1, hz2⟩ := info_parts hib
  have hblt : b < w.heap.size := (Array.getElem?_eq_some_iff.1 hb).1
  have mixed := L.mixed
  have t0 := L.t0; have a0 := L.a0; have z0 := L.z0; have v0 := L.v0; have t3 := L.t3; have a3 := L.a3; have z3 := L.z3; have v3 := L.v3; have t4 := L.t4; have a4 := L.a4; have z4 := L.z4; have v4 := L.v4; have t9 := L.t9; have a9 := L.a9; have z9 := L.z9; have v9 := L.v9; have t20 := L.t20; have a20 := L.a20; have z20 := L.z20; have v20 := L.v20; have t30 := L.t30; have a30 := L.a30; have z30 := L.z30; have v30 := L.v30; have t36 := L.t36; have a36 := L.a36; have z36 := L.z36; have v36 := L.v36; have t38 := L.t38; have a38 := L.a38; have z38 := L.z38; have v38 := L.v38; have t59 := L.t59; have a59 := L.a59; have z59 := L.z59; have v59 := L.v59; have t73 := L.t73; have a73 := L.a73; have z73 := L.z73; have v73 := L.v73
  have u0 := run_underlying L.t0; have u3 := run_underlying L.t3; have u4 := run_underlying L.t4; have u9 := run_underlying L.t9; have u20 := run_underlying L.t20; have u30 := run_underlying L.t30; have u36 := run_underlying L.t36; have u38 := run_underlying L.t38; have u59 := run_underlying L.t59; have u73 := run_underlying L.t73
  have e52 : ∀ args w, (callFunc (ρ.f 52) args).run P w = .ok (.enter (ρ.f 52) args) w := enters_of L.f52 (by kernel_rfl) rfl
  go_enter L.f35, Body7.n35_ntmps ρ
  go_wp2_with (go_at_fn (ρ.f 52); refine (cC hb).mono ?_)
  rintro e w1 ⟨rfl, hb1, hs1, hzz, hk1⟩
  have hown1 : w1.ownsRowF 0 (ρ.t 5) 1 v n xs := by
    refine ⟨hown.1, ?_⟩
    rcases hown.2 with h | ⟨g, cap, cur, fz, rfl, h1, h2, h3⟩
    · exact .inl h
    · exact .inr ⟨g, cap, cur, fz, rfl, h1, by rw [hk1 g fun e => hne (by rw [← e]; rfl)]; exact h2, h3⟩
  have c1 : w1.cell? ⟨b, 1, none⟩ = some v := by rw [Lib.cell_of_heap hb1]; rfl
  have c0 : w1.cell? ⟨b, 0, none⟩ = some (.pointer (some ⟨b, 0, none⟩)) := by rw [Lib.cell_of_heap hb1]; rfl
  have hbk : ∀ j, (ad.add j).block = ad.block := fun j => by unfold Addr.add; split <;> rfl
  have hnews1 : ∀ j u, news[j]? = some u → w1.cell? (ad.add j) = some u := fun j u hj => by
    have := hnews j u hj
    unfold World.cell? at this ⊢
    rw [hbk j] at this ⊢
    rw [hk1 _ hadb]
    exact this
  have hlm : news.length = m * 1 := by omega
  go_wp2_with (at_builtin; refine wpList_bapp rfl _ _ (ρ.t 30) (ρ.t 30) rfl L.t30 L.t30 (fun k h => by cases h) ?g1 ?g2 hv5 rfl rfl hown1 (m := m) (ds := news) ?g3 (run_firstCells_some w1 1 m _ _ _ news hlm hnews1) (run_firstCells_some w1.drew 1 m _ _ _ news hlm hnews1) hl h1 hlen ?_)
  case g1 => simp [sizeT, hi, hz1]
  case g2 => simp [bytesT, hi, hz2]
  case g3 => rfl
  intro v' w2 hown2 hg2 hn0 hnew
  have hb2 : w2.heap[b]? = some (.cells #[.pointer (some ⟨b, 0, none⟩), v] (ρ.t 59) (0, 0)) := by rw [hg2.block b (by omega) (fun e => hne e.symm)]; exact hb1
  have d0 : w2.cell? ⟨b, 0, none⟩ = some (.pointer (some ⟨b, 0, none⟩)) := by rw [Lib.cell_of_heap hb2]; rfl
  have d1 : w2.cell? ⟨b, 1, none⟩ = some v := by rw [Lib.cell_of_heap hb2]; rfl
  have f1 : w2.frozen? ⟨b, 1, none⟩ = false := Lib.frozen_of_heap hb2 1
  obtain ⟨ao, n', cap, rfl⟩ : ∃ ao n' cap, v' = .slice ao n' cap := by
    rcases hown2.2 with ⟨hv, _⟩ | ⟨g, cap, cur, fz, hv, _⟩
    · exact ⟨_, _, _, hv⟩
    · exact ⟨_, _, _, hv⟩
  go_wp2
  go_ret2
  exact ⟨rfl, wrote_of hb1 hs1 (Nat.le_of_eq hzz.symm) (fun k _ => hk1 k) hne hblt hg2 hown2 (fun h hm => hn0.out h hm) hnew⟩

set_option maxHeartbeats 1000000 in
set_option maxRecDepth 100000 in
/-- (*strings.Builder).String, of a builder that holds a byte: the row's bytes are frozen. -/
theorem bw_String (L : Lays.n169 P ρ) (X : Builder.Extra P ρ) {b g cap : Nat} {p : Value} {l : List UInt8} {cur : Array Value} {fz : Nat × Nat} (hbk : w.heap[b]? = some (.cells #[p, .slice (some ⟨g, 0, none⟩) l.length cap] (ρ.t 72) (0, 0)))
    (hg : w.heap[g]? = some (.cells cur (ρ.t 5) fz)) (hne : g ≠ b) (hnc : l.length ≤ cap) (hcm : cap ≤ maxLen) (hcs : cur.size = cap) (htake : cur.toList.take l.length = l.map fun c => .int .u8 c.toNat) (h0 : l ≠ []) :
    Calls P (ρ.f 169) #[.pointer (some ⟨b, 0, none⟩)] w fun e w' => e = .returned (.string ⟨l.toArray⟩) ∧ SameOut w w' ∧ (∀ k, k ≠ g → w'.heap[k]? = w.heap[k]?) ∧ ∃ fz', w'.heap[g]? = some (.cells cur (ρ.t 5) fz') ∧ (fz.2 ≤ l.length → fz'.2 ≤ l.length) := by
  have hl0 : l.length ≠ 0 := by simpa using h0
  have c1 : w.drew.cell? ⟨b, 1, none⟩ = some (.slice (some ⟨g, 0, none⟩) l.length cap) := by
    have : w.drew.heap[b]? = some (.cells #[p, .slice (some ⟨g, 0, none⟩) l.length cap] (ρ.t 72) (0, 0)) := hbk
    rw [Lib.cell_of_heap this]; rfl
  have hSD : (Builtin.unsafeSliceData_ #[(ρ.t 37)] (ρ.t 127) #[.slice (some ⟨g, 0, none⟩) l.length cap]).run P w.drew = .ok (.pointer (some ⟨g, 0, none⟩)) w.drew :=
    Lib.run_unsafeSliceData_row _ _ _ _ _ _ (by omega)
  have hUS : (Builtin.unsafeString_ #[(ρ.t 127), (ρ.t 3)] (ρ.t 9) #[.pointer (some ⟨g, 0, none⟩), .int .i64 l.length]).run P w.drew = .ok (.string ⟨l.toArray⟩) (w.drew.freeze ⟨g, 0, none⟩ l.length) := by
    refine Lib.run_unsafeString_row w.drew (ρ.t 127) (ρ.t 3) (ρ.t 9) (ρ.t 5) L.t127 X.cellsByte g cur.size (by have hg' : w.drew.heap[g]? = some (.cells cur (ρ.t 5) fz) := hg; simp [World.shape?, hg']) l h0 (by omega) (by unfold maxLen at hcm; omega) ?_
    intro j x hx
    have hg' : w.drew.heap[g]? = some (.cells cur (ρ.t 5) fz) := hg
    have hadd : (⟨g, 0, none⟩ : Addr).add j = ⟨g, j, none⟩ := by unfold Addr.add; split <;> simp_all
    rw [hadd, Lib.cell_of_heap hg']
    have hj : j < l.length := (List.getElem?_eq_some_iff.1 hx).1
    have : (cur.toList.take l.length)[j]? = some (.int .u8 x.toNat) := by rw [htake, List.getElem?_map, hx]; rfl
    rw [List.getElem?_take, if_pos hj] at this
    simpa using this
  have hW : SameOut w (w.drew.freeze ⟨g, 0, none⟩ l.length) ∧ (∀ k, k ≠ g → (w.drew.freeze ⟨g, 0, none⟩ l.length).heap[k]? = w.heap[k]?) ∧ ∃ fz', (w.drew.freeze ⟨g, 0, none⟩ l.length).heap[g]? = some (.cells cur (ρ.t 5) fz') ∧ (fz.2 ≤ l.length → fz'.2 ≤ l.length) := by
    have hg' : w.drew.heap[g]? = some (.cells cur (ρ.t 5) fz) := hg
    unfold World.freeze
    rw [if_neg hl0]
    obtain ⟨lo, hi⟩ := fz
    refine ⟨⟨rfl, rfl, rfl, by show w.heap.size ≤ (Array.modify _ _ _).size; rw [Array.size_modify]; exact Nat.le_refl _⟩, fun k hk => ?_, (if lo == hi then (0, 0 + l.length) else (min lo 0, max hi (0 + l.length))), ?_, fun h => ?_⟩
    · simp only [Array.getElem?_modify]
      rw [if_neg (by omega)]
      rfl
    · simp only [Array.getElem?_modify, if_true, hg', Option.map_some]
    · simp only at h
      split
      · simp
      · simp; omega
  clear hbk htake h0 hl0
  have mixed := L.mixed
  have t72 := L.t72; have a72 := L.a72; have z72 := L.z72; have v72 := L.v72; have u72 := run_underlying L.t72
  have t70 := L.t70; have a70 := L.a70; have z70 := L.z70; have v70 := L.v70; have u70 := run_underlying L.t70
  have t37 := L.t37; have a37 := L.a37; have z37 := L.z37; have v37 := L.v37; have u37 := run_underlying L.t37
  have t127 := L.t127; have a127 := L.a127; have z127 := L.z127; have v127 := L.v127; have u127 := run_underlying L.t127
  have t3 := L.t3; have a3 := L.a3; have z3 := L.z3; have v3 := L.v3; have u3 := run_underlying L.t3
  have t9 := L.t9; have a9 := L.a9; have z9 := L.z9; have v9 := L.v9; have u9 := run_underlying L.t9
  have t5 := X.t5; have a5 := X.a5; have z5 := X.z5; have v5 := X.v5; have u5 := run_underlying X.t5
  go_enter L.f169, Body.n169_ntmps ρ
  go_wp2
  go_region_o
  all_goals (go_wp2; go_ret; exact ⟨rfl, hW⟩)

/-- (*strings.Builder).String, of a builder that holds nothing. -/
theorem bw_String_nil (L : Lays.n169 P ρ) (X : Builder.Extra P ρ) {b : Nat} {p : Value} (hbk : w.heap[b]? = some (.cells #[p, .slice none 0 0] (ρ.t 72) (0, 0))) :
    Calls P (ρ.f 169) #[.pointer (some ⟨b, 0, none⟩)] w fun e w' => e = .returned (.string ⟨#[]⟩) ∧ Below w.heap.size w w' :=
  Any.Builder_String_nil L X w.heap.size b p w hbk

set_option maxHeartbeats 1000000 in
set_option maxRecDepth 100000 in
/-- (*strings.Builder).Len. -/
theorem bw_Len (L : Lays.n170 P ρ) {b n cap : Nat} {p : Value} {ao : Option Addr} (hbk : w.heap[b]? = some (.cells #[p, .slice ao n cap] (ρ.t 72) (0, 0))) :
    Calls P (ρ.f 170) #[.pointer (some ⟨b, 0, none⟩)] w fun e w' => e = .returned (.int .i64 n) ∧ w' = w := by
  have c1 : w.cell? ⟨b, 1, none⟩ = some (.slice ao n cap) := by rw [Lib.cell_of_heap hbk]; rfl
  have mixed := L.mixed
  have t72 := L.t72; have a72 := L.a72; have z72 := L.z72; have v72 := L.v72; have u72 := run_underlying L.t72
  have t70 := L.t70; have a70 := L.a70; have z70 := L.z70; have v70 := L.v70; have u70 := run_underlying L.t70
  have t37 := L.t37; have a37 := L.a37; have z37 := L.z37; have v37 := L.v37; have u37 := run_underlying L.t37
  have t3 := L.t3; have a3 := L.a3; have z3 := L.z3; have v3 := L.v3; have u3 := run_underlying L.t3
  go_enter L.f170, Body.n170_ntmps ρ
  go_wp2
  go_ret
  exact ⟨rfl, rfl⟩
end Ram
