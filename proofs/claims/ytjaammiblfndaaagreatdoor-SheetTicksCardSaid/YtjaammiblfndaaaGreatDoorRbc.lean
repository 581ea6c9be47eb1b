/- A part of the proof: contracts of functions, over the abstract machine. -/
import Derived.Test.YtjaammiblfndaaaGreatDoorRbb
import Derived.Shelf.Strings.BuilderX
import Derived.Shelf.RegionOpenPlain
import Derived.Lib.Walk
import Derived.WalkKit
import Derived.Laws.Externs
set_option linter.unusedVariables false
set_option linter.unusedSimpArgs false
set_option linter.all false
/- strings.Builder as an object: its methods, in the world. -/
set_option linter.unusedVariables false
namespace Ram
open Go Go.Shelf Go.Proofs Go.RowKit
variable {P : Program} {ρ : Ren} {w : World}

/-- What a method leaves: at block b a builder; its row is the old one or a new one. -/
structure Wrote (T e : TypeId) (b : Nat) (v : Value) (n : Nat) (xs : List Value) (w w' : World) : Prop where
  ex : ∃ p' v', (p' = .pointer none ∨ p' = .pointer (some ⟨b, 0, none⟩)) ∧ w'.heap[b]? = some (.cells #[p', v'] T (0, 0)) ∧ w'.ownsRowF 0 e 1 v' n xs ∧ (v = .slice none 0 0 → n = 0 → v' = .slice none 0 0) ∧ ∀ k, v'.ownBlock = some k → k ≠ b ∧ (v.ownBlock = some k ∨ w.heap.size ≤ k)
  out : SameOut w w'
  keep : ∀ k, k < w.heap.size → k ≠ b → v.ownBlock ≠ some k → w'.heap[k]? = w.heap[k]?

/-- copyCheck. -/
theorem bw_copy (L : Lays.n240 P ρ) (X : Builder.X72 P ρ) {b : Nat} {p v : Value} (hb : w.heap[b]? = some (.cells #[p, v] (ρ.t 72) (0, 0))) (hp : p = .pointer none ∨ p = .pointer (some ⟨b, 0, none⟩)) :
    Calls P (ρ.f 240) #[.pointer (some ⟨b, 0, none⟩)] w fun e w' => e = .returned (.tuple #[]) ∧ w'.heap[b]? = some (.cells #[.pointer (some ⟨b, 0, none⟩), v] (ρ.t 72) (0, 0)) ∧ SameOut w w' ∧ w'.heap.size = w.heap.size ∧ ∀ k, k ≠ b → w'.heap[k]? = w.heap[k]? := by
  have c0 : w.cell? ⟨b, 0, none⟩ = some p := by rw [Lib.cell_of_heap hb]; rfl
  rcases hp with rfl | rfl
  · refine (Any.Builder_copyCheck_fresh L X b w c0 (by simp [World.shape?, hb]) (Lib.frozen_of_heap hb 0)).mono ?_
    rintro e w' ⟨rfl, rfl⟩
    rw [setCell_blk _ hb]
    exact ⟨rfl, by rw [setBlk_same hb]; rfl, setBlk_out _ _ _, by simp [setBlk], fun k hk => setBlk_other hk⟩
  · refine (Any.Builder_copyCheck_used L X b w c0).mono ?_
    rintro e w' ⟨rfl, rfl⟩
    exact ⟨rfl, hb, ⟨rfl, rfl, rfl, Nat.le_refl _⟩, rfl, fun _ _ => rfl⟩

/-- The row is written anew; the builder holds it. -/
theorem wrote_of {T e : TypeId} {b : Nat} {v v' : Value} {n m : Nat} {xs : List Value} {w1 w2 : World} (hb1 : w1.heap[b]? = some (.cells #[.pointer (some ⟨b, 0, none⟩), v] T (0, 0))) (hs1 : SameOut w w1) (hz1 : w.heap.size ≤ w1.heap.size) (hk1 : ∀ k, k < w.heap.size → k ≠ b → w1.heap[k]? = w.heap[k]?)
    (hne : v.ownBlock ≠ some b) (hblt : b < w.heap.size) (hg : w1.grownBy w2 v.ownBlock) (hown : w2.ownsRowF 0 e 1 v' (n + m) xs) (hn0 : v = .slice none 0 0 → m = 0 → v' = .slice none 0 0) (hnew : ∀ k, v'.ownBlock = some k → v.ownBlock = some k ∨ w.heap.size ≤ k) :
    Wrote T e b v (n + m) xs w (w2.setCell ⟨b, 1, none⟩ v') := by
  have hb2 : w2.heap[b]? = some (.cells #[.pointer (some ⟨b, 0, none⟩), v] T (0, 0)) := by rw [hg.block b (by omega) (fun e => hne e.symm)]; exact hb1
  have hvb : ∀ k, v'.ownBlock = some k → k ≠ b := fun k hk e => by
    subst e
    rcases hnew _ hk with h | h
    · exact hne h
    · omega
  rw [setCell_blk _ hb2]
  have ho := setBlk_out w2 b (.cells ((#[.pointer (some ⟨b, 0, none⟩), v] : Array Value).setIfInBounds 1 v') T (0, 0))
  refine ⟨⟨_, v', .inr rfl, by rw [setBlk_same hb2]; rfl, ?_, fun h h0 => hn0 h (by omega), fun k hk => ⟨hvb k hk, hnew k hk⟩⟩, ⟨ho.os.trans (hg.os.trans hs1.os), ho.tape.trans (hg.tape.trans hs1.tape), ho.output.trans (hg.output.trans hs1.output), Nat.le_trans hs1.size (Nat.le_trans hg.size ho.size)⟩, fun k hk h1 h2 => ?_⟩
  · refine ⟨hown.1, ?_⟩
    rcases hown.2 with h | ⟨g, cap, cur, fz, rfl, h1, h2, h3⟩
    · exact .inl h
    · exact .inr ⟨g, cap, cur, fz, rfl, h1, by rw [setBlk_other (hvb g rfl)]; exact h2, h3⟩
  · rw [setBlk_other h1, hg.block k (by omega) (fun e => h2 e.symm), hk1 k hk h1]

set_option maxHeartbeats 2000000 in
set_option maxRecDepth 100000 in
/-- (*strings.Builder).WriteString. -/
theorem bw_WriteString (L : Lays.n166 P ρ) (X : Builder.Extra P ρ) {b n : Nat} {p v : Value} {xs : List Value} {s : ByteArray} (hb : w.heap[b]? = some (.cells #[p, v] (ρ.t 72) (0, 0))) (hp : p = .pointer none ∨ p = .pointer (some ⟨b, 0, none⟩)) (hown : w.ownsRowF 0 (ρ.t 5) 1 v n xs) (hne : v.ownBlock ≠ some b) (hlen : n + s.size ≤ 140737488355328) :
    Calls P (ρ.f 166) #[.pointer (some ⟨b, 0, none⟩), .string s] w fun e w' => e = .returned (.tuple #[.int .i64 s.size, .nilIface]) ∧ Wrote (ρ.t 72) (ρ.t 5) b v (n + s.size) (xs ++ Lib.strCells s) w w' := by
  obtain ⟨i0, hi, hz0, hz1, hz2⟩ := info_parts X.infoByte
  have hblt : b < w.heap.size := (Array.getElem?_eq_some_iff.1 hb).1
  have mixed := L.mixed
  have t72 := L.t72; have a72 := L.a72; have z72 := L.z72; have v72 := L.v72; have u72 := run_underlying L.t72
  have t70 := L.t70; have a70 := L.a70; have z70 := L.z70; have v70 := L.v70; have u70 := run_underlying L.t70
  have t37 := L.t37; have a37 := L.a37; have z37 := L.z37; have v37 := L.v37; have u37 := run_underlying L.t37
  have t3 := L.t3; have a3 := L.a3; have z3 := L.z3; have v3 := L.v3; have u3 := run_underlying L.t3
  have t9 := L.t9; have a9 := L.a9; have z9 := L.z9; have v9 := L.v9; have u9 := run_underlying L.t9
  have t4 := L.t4; have a4 := L.a4; have z4 := L.z4; have v4 := L.v4; have u4 := run_underlying L.t4
  have t164 := L.t164; have a164 := L.a164; have z164 := L.z164; have v164 := L.v164; have u164 := run_underlying L.t164
  have t5 := X.t5; have a5 := X.a5; have z5 := X.z5; have v5 := X.v5; have u5 := run_underlying X.t5
  have e240 : ∀ args w, (callFunc (ρ.f 240) args).run P w = .ok (.enter (ρ.f 240) args) w := enters_of L.f240 (by kernel_rfl) rfl
  go_enter L.f166, Body.n166_ntmps ρ
  go_wp2_with (go_at_fn (ρ.f 240); refine (bw_copy { L with } X.toX72 hb hp).mono ?_)
  rintro e w1 ⟨rfl, hb1, hs1, hzz, hk1⟩
  have hown1 : w1.ownsRowF 0 (ρ.t 5) 1 v n xs := by
    refine ⟨hown.1, ?_⟩
    rcases hown.2 with h | ⟨g, cap, cur, fz, rfl, h1, h2, h3⟩
    · exact .inl h
    · exact .inr ⟨g, cap, cur, fz, rfl, h1, by rw [hk1 g fun e => hne (by rw [← e]; rfl)]; exact h2, h3⟩
  have c1 : w1.cell? ⟨b, 1, none⟩ = some v := by rw [Lib.cell_of_heap hb1]; rfl
  have c0 : w1.cell? ⟨b, 0, none⟩ = some (.pointer (some ⟨b, 0, none⟩)) := by rw [Lib.cell_of_heap hb1]; rfl
  go_wp2_with (at_builtin; refine wpList_bapp rfl _ _ (ρ.t 37) (ρ.t 9) rfl L.t37 L.t9 (fun k h => by cases h) ?g1 ?g2 X.v5 rfl rfl hown1 (m := s.size) (ds := Lib.strCells s) ?g3 (Lib.run_firstCells_string _ 1 s) (Lib.run_firstCells_string _ 1 s) (Lib.strCells_length s) (Lib.strCells_oneCell s) hlen ?_)
  case g1 => simp [sizeT, hi, hz1]
  case g2 => simp [bytesT, hi, hz2]
  case g3 => rfl
  intro v' w2 hown2 hg2 hn0 hnew
  have hb2 : w2.heap[b]? = some (.cells #[.pointer (some ⟨b, 0, none⟩), v] (ρ.t 72) (0, 0)) := by rw [hg2.block b (by omega) (fun e => hne e.symm)]; exact hb1
  have d0 : w2.cell? ⟨b, 0, none⟩ = some (.pointer (some ⟨b, 0, none⟩)) := by rw [Lib.cell_of_heap hb2]; rfl
  have d1 : w2.cell? ⟨b, 1, none⟩ = some v := by rw [Lib.cell_of_heap hb2]; rfl
  have f1 : w2.frozen? ⟨b, 1, none⟩ = false := Lib.frozen_of_heap hb2 1
  obtain ⟨ao, n', cap, rfl⟩ : ∃ ao n' cap, v' = .slice ao n' cap := by
    rcases hown2.2 with ⟨hv, _⟩ | ⟨g, cap, cur, fz, hv, _⟩
    · exact ⟨_, _, _, hv⟩
    · exact ⟨_, _, _, hv⟩
  go_wp2
  go_ret2
  exact ⟨rfl, wrote_of hb1 hs1 (Nat.le_of_eq hzz.symm) (fun k _ => hk1 k) hne hblt hg2 hown2 (fun h hm => hn0.out h (by simpa using hm)) hnew⟩

theorem alloc_out (w : World) (o : Obj) : SameOut w (w.alloc o) := ⟨rfl, rfl, rfl, by simp⟩
theorem SameOut.trans {w1 w2 w3 : World} (h : SameOut w1 w2) (k : SameOut w2 w3) : SameOut w1 w3 := ⟨k.os.trans h.os, k.tape.trans h.tape, k.output.trans h.output, Nat.le_trans h.size k.size⟩

set_option maxHeartbeats 2000000 in
set_option maxRecDepth 100000 in
/-- (*strings.Builder).WriteByte. -/
theorem bw_WriteByte (L : Lays.n167 P ρ) (X : Builder.Extra P ρ) {b n : Nat} {p v : Value} {xs : List Value} (hb : w.heap[b]? = some (.cells #[p, v] (ρ.t 72) (0, 0))) (hp : p = .pointer none ∨ p = .pointer (some ⟨b, 0, none⟩)) (hown : w.ownsRowF 0 (ρ.t 5) 1 v n xs) (hne : v.ownBlock ≠ some b) {c : Int} (hlen : n + 1 ≤ 140737488355328) :
    Calls P (ρ.f 167) #[.pointer (some ⟨b, 0, none⟩), .int .u8 c] w fun e w' => e = .returned .nilIface ∧ Wrote (ρ.t 72) (ρ.t 5) b v (n + 1) (xs ++ [.int .u8 c]) w w' := by
  obtain ⟨i0, hi, hz0, hz1, hz2⟩ := info_parts X.infoByte
  have hblt : b < w.heap.size := (Array.getElem?_eq_some_iff.1 hb).1
  have mixed := L.mixed
  have t72 := L.t72; have a72 := L.a72; have z72 := L.z72; have v72 := L.v72; have u72 := run_underlying L.t72
  have t70 := L.t70; have a70 := L.a70; have z70 := L.z70; have v70 := L.v70; have u70 := run_underlying L.t70
  have t5 := L.t5; have a5 := L.a5; have z5 := L.z5; have v5 := L.v5; have u5 := run_underlying L.t5
  have t37 := L.t37; have a37 := L.a37; have z37 := L.z37; have v37 := L.v37; have u37 := run_underlying L.t37
  have t9 := L.t9; have a9 := L.a9; have z9 := L.z9; have v9 := L.v9; have u9 := run_underlying L.t9
  have t4 := L.t4; have a4 := L.a4; have z4 := L.z4; have v4 := L.v4; have u4 := run_underlying L.t4
  have t164 := L.t164; have a164 := L.a164; have z164 := L.z164; have v164 := L.v164; have u164 := run_underlying L.t164
  have e240 : ∀ args w, (callFunc (ρ.f 240) args).run P w = .ok (.enter (ρ.f 240) args) w := enters_of L.f240 (by kernel_rfl) rfl
  go_enter L.f167, Body.n167_ntmps ρ
  go_wp2_with (go_at_fn (ρ.f 240); refine (bw_copy { L with } X.toX72 hb hp).mono ?_)
  rintro e w1 ⟨rfl, hb1, hs1, hzz, hk1⟩
  have hown1 : w1.ownsRowF 0 (ρ.t 5) 1 v n xs := by
    refine ⟨hown.1, ?_⟩
    rcases hown.2 with h | ⟨g, cap, cur, fz, rfl, h1, h2, h3⟩
    · exact .inl h
    · exact .inr ⟨g, cap, cur, fz, rfl, h1, by rw [hk1 g fun e => hne (by rw [← e]; rfl)]; exact h2, h3⟩
  have c1 : w1.cell? ⟨b, 1, none⟩ = some v := by rw [Lib.cell_of_heap hb1]; rfl
  have c0 : w1.cell? ⟨b, 0, none⟩ = some (.pointer (some ⟨b, 0, none⟩)) := by rw [Lib.cell_of_heap hb1]; rfl
  go_wp2_with (at_builtin; refine wpList_bapp rfl _ _ (ρ.t 37) (ρ.t 37) rfl L.t37 L.t37 (fun k h => by cases h) ?g1 ?g2 X.v5 rfl rfl (hown1.alloc _) (m := 1) (ds := [.int .u8 c]) ?g3 (run_firstCells_some _ 1 1 _ _ _ [.int .u8 c] rfl ?g4) (run_firstCells_some _ 1 1 _ _ _ [.int .u8 c] rfl ?g5) rfl ?g6 hlen ?_)
  case g1 => simp [sizeT, hi, hz1]
  case g2 => simp [bytesT, hi, hz2]
  case g3 => rfl
  case g4 =>
    intro j u hj
    match j, hj with
    | 0, hj => simp at hj; subst hj; simp [Addr.add]; rw [← hzz]; simp
  case g5 =>
    intro j u hj
    match j, hj with
    | 0, hj => simp at hj; subst hj; simp [Addr.add]; rw [← hzz]; simp
  case g6 => intro u hu; simp at hu; subst hu; rfl
  intro v' w2 hown2 hg2 hn0 hnew
  have hb1a : (w1.alloc (.cells #[.int .u8 c] (ρ.t 5))).heap[b]? = some (.cells #[.pointer (some ⟨b, 0, none⟩), v] (ρ.t 72) (0, 0)) := (Lib.alloc_old w1 _ b (by omega)).trans hb1
  have hb2 : w2.heap[b]? = some (.cells #[.pointer (some ⟨b, 0, none⟩), v] (ρ.t 72) (0, 0)) := by rw [hg2.block b (by simp; omega) (fun e => hne e.symm)]; exact hb1a
  have d0 : w2.cell? ⟨b, 0, none⟩ = some (.pointer (some ⟨b, 0, none⟩)) := by rw [Lib.cell_of_heap hb2]; rfl
  have d1 : w2.cell? ⟨b, 1, none⟩ = some v := by rw [Lib.cell_of_heap hb2]; rfl
  have f1 : w2.frozen? ⟨b, 1, none⟩ = false := Lib.frozen_of_heap hb2 1
  obtain ⟨ao, n', cap, rfl⟩ : ∃ ao n' cap, v' = .slice ao n' cap := by
    rcases hown2.2 with ⟨hv, _⟩ | ⟨g, cap, cur, fz, hv, _⟩
    · exact ⟨_, _, _, hv⟩
    · exact ⟨_, _, _, hv⟩
  go_wp2
  go_ret
  exact ⟨rfl, wrote_of hb1a (hs1.trans (alloc_out _ _)) (by simp; omega) (fun k hk hkb => (Lib.alloc_old w1 _ k (by omega)).trans (hk1 k hkb)) hne hblt hg2 hown2 (fun _ h => by cases h) (fun k hk => (hnew k hk).imp id fun h => by omega)⟩
end Ram
