/- A part of the proof: contracts of functions, over the abstract machine. -/
import Derived.Test.YtjaammiblfndaaaGreatDoorRb0
import Derived.Shelf.Strings.Builder1
import Derived.Shelf.Strings.BuilderF
import Derived.Lib.FrozenHead2
set_option linter.unusedVariables false
set_option linter.unusedSimpArgs false
set_option linter.all false
/- strings.Builder as an object of the abstract machine: the world's side of its methods. -/
namespace Ram
open Go Go.Shelf Go.Proofs
variable {P : Program} {ρ : Ren} {w : World}

/-- An append to a row of bytes that is one's own. -/
theorem bapp {t t' ty e : TypeId} {d' : TypeDesc} (hu : P.underlying t = some (.slice e)) (hu' : P.underlying t' = some d') (hd : ∀ k, d' ≠ .int k) (hs : sizeT P e = some 1) (hb : bytesT P e = some 1) (hz : ∀ w, (zeroValue e).run P w = .ok (.int .u8 0) w)
    {v y : Value} {n m : Nat} {xs ds : List Value} (hown : w.ownsRowF 0 e 1 v n xs) (l1 : (Builtin.lenOf y).run P w = .ok m w) (l2 : (Builtin.firstCells 1 m y).run P w = .ok ds.toArray w) (l3 : (Builtin.firstCells 1 m y).run P w.drew = .ok ds.toArray w.drew)
    (hdl : ds.length = m) (hone : ∀ u ∈ ds, u.oneCell' = true) (hlen : n + m ≤ 140737488355328) :
    ∃ v' w', (Builtin.append_ #[t, t'] ty #[v, y]).run P w = .ok v' w' ∧ w'.ownsRowF 0 e 1 v' (n + m) (xs ++ ds) ∧ w.grownBy w' v.ownBlock ∧ (v = .slice none 0 0 → m = 0 → v' = .slice none 0 0) ∧ ∀ k, v'.ownBlock = some k → v.ownBlock = some k ∨ w.heap.size ≤ k := by
  have hxl : xs.length = n := by simpa using hown.1
  have hml : n + m ≤ maxLen := by unfold maxLen; omega
  have hlx : (xs ++ ds).length = (n + m) * 1 := by simp [hxl, hdl]
  rcases hown.2 with ⟨rfl, rfl⟩ | ⟨g, cap, cur, fz, rfl, hbg, hg, hfz, hnc, hcm, hcs, htake⟩
  · by_cases hm : m = 0
    · subst hm
      have hr := append_room (P := P) (w := w) (ty := ty) (ts := #[t, t']) (base := none) (n := 0) (cap := 0) rfl rfl hu hu' hd hs l1 l2 (Nat.le_refl _)
      refine ⟨_, _, hr, ⟨hlx, .inl ⟨rfl, rfl⟩⟩, ⟨rfl, rfl, rfl, Nat.le_refl _, fun _ _ _ => rfl⟩, fun _ _ => rfl, fun k hk => by cases hk⟩
    · have hr := append_grow (P := P) (w := w) (ty := ty) (ts := #[t, t']) (base := none) (n := 0) (cap := 0) (os := []) rfl rfl hu hu' hd hs hb l1 (by simpa using hlen) (by omega) (by rw [run_firstCells_none]) l3 (hz _)
      have hge := grownCap_ge w (0 + m) 0 e
      have hcm2 := grownCap_le_maxLen w (0 + m) 0 e hml
      refine ⟨_, _, hr, ⟨hlx, .inr ⟨w.heap.size, _, _, (0, 0), rfl, Nat.zero_le _, heap_alloc_new w.drew _, Nat.zero_le _, hge, hcm2, ?_, ?_⟩⟩, ⟨rfl, rfl, rfl, by simp, fun k hk _ => heap_alloc_old w.drew _ hk⟩, fun _ h => absurd h hm, fun k hk => .inr (by simp [Value.ownBlock] at hk; omega)⟩
      · have hz1 : (Value.int IntKind.u8 0).cells.size = 1 := rfl
        simp only [Array.size_append, List.size_toArray, size_zeroCells, hz1, hdl, List.length_nil]
        omega
      · have : xs = [] := List.eq_nil_of_length_eq_zero hxl
        subst this
        simp only [Array.toList_append, List.nil_append]
        rw [show (0 + m) * 1 = ds.length by omega]
        exact List.take_left
  · by_cases hroom : n + m ≤ cap
    · have hr := append_room (P := P) (w := w) (ty := ty) (ts := #[t, t']) (base := some ⟨g, 0, none⟩) (n := n) (cap := cap) rfl rfl hu hu' hd hs l1 l2 hroom
      have hcs' : cur.size = cap := by simpa using hcs
      have hst := run_storeCells_atF P g n e fz ds 0 cur w hg (by simpa using hfz) (by simp [hdl]; omega) hone
      dsimp only at hr
      rw [show (⟨g, 0, none⟩ : Addr).add (n * 1) = ⟨g, n, none⟩ by rw [Nat.mul_one]; unfold Addr.add; split <;> simp_all] at hr
      simp only [hst, Result.andThen_ok, Nat.add_zero, hdl] at hr
      refine ⟨_, _, hr, ⟨hlx, .inr ⟨g, cap, _, fz, rfl, hbg, setRow_heap w g cur _ e _ hg, by omega, hroom, hcm, ?_, ?_⟩⟩, ⟨rfl, rfl, rfl, by simp, fun k _ hk => setRow_other w g k _ (fun e => hk (by simp [Value.ownBlock, e]))⟩, (fun h => by cases h), fun k hk => .inl hk⟩
      · simp only [List.size_toArray, List.length_append, List.length_take, List.length_drop, Array.length_toList, hdl]
        omega
      · have ht' : cur.toList.take n = xs := by simpa using htake
        rw [ht', ← hlx]
        exact List.take_left
    · have holds : ∀ j u, xs[j]? = some u → w.drew.cell? ((⟨g, 0, none⟩ : Addr).add j) = some u := hown.cells (g := g) rfl
      have hr := append_grow (P := P) (w := w) (ty := ty) (ts := #[t, t']) (base := some ⟨g, 0, none⟩) (n := n) (cap := cap) (os := xs) rfl rfl hu hu' hd hs hb l1 (by simpa using hlen) hroom (run_firstCells_some w.drew 1 n _ _ _ xs (by simpa using hxl) holds) l3 (hz _)
      have hge := grownCap_ge w (n + m) cap e
      have hcm2 := grownCap_le_maxLen w (n + m) cap e hml
      refine ⟨_, _, hr, ⟨hlx, .inr ⟨w.heap.size, _, _, (0, 0), rfl, Nat.zero_le _, heap_alloc_new w.drew _, Nat.zero_le _, hge, hcm2, ?_, ?_⟩⟩, ⟨rfl, rfl, rfl, by simp, fun k hk _ => heap_alloc_old w.drew _ hk⟩, (fun h => by cases h), fun k hk => .inr (by simp [Value.ownBlock] at hk; omega)⟩
      · have hz1 : (Value.int IntKind.u8 0).cells.size = 1 := rfl
        simp only [Array.size_append, List.size_toArray, size_zeroCells, hz1, hxl, hdl]
        omega
      · simp only [Array.toList_append, List.append_assoc]
        rw [← List.append_assoc, ← hlx]
        exact List.take_left
theorem wpList_bapp {ops : Array Oper} {rest : List Oper} {o : Oper} {a : Act} {Q : Exit → Act → World → Prop} (hgd : o.guard = none) (sl x : Operand) (t t' : TypeId) {e : TypeId} {d' : TypeDesc}
    (ho : o.op = .call { callee := .builtin .append, args := #[sl, x], argTypes := #[t, t'] })
    (hu : P.underlying t = some (.slice e)) (hu' : P.underlying t' = some d') (hd : ∀ k, d' ≠ .int k) (hs : sizeT P e = some 1) (hb : bytesT P e = some 1) (hz : ∀ w, (zeroValue e).run P w = .ok (.int .u8 0) w)
    {v y : Value} {n m : Nat} {xs ds : List Value} (hv : a.eval sl = v) (hy : a.eval x = y) (hown : w.ownsRowF 0 e 1 v n xs) (l1 : (Builtin.lenOf y).run P w = .ok m w) (l2 : (Builtin.firstCells 1 m y).run P w = .ok ds.toArray w) (l3 : (Builtin.firstCells 1 m y).run P w.drew = .ok ds.toArray w.drew)
    (hdl : ds.length = m) (hone : ∀ u ∈ ds, u.oneCell' = true) (hlen : n + m ≤ 140737488355328)
    (h : ∀ v' w', w'.ownsRowF 0 e 1 v' (n + m) (xs ++ ds) → w.grownBy w' v.ownBlock → Go.RowKit.Hid (v = .slice none 0 0 → m = 0 → v' = .slice none 0 0) → (∀ k, v'.ownBlock = some k → v.ownBlock = some k ∨ w.heap.size ≤ k) → wpList P ops Q rest (a.put o.dst v') w') : wpList P ops Q (o :: rest) a w := by
  refine wpList_plain hgd fun K hK => ?_
  obtain ⟨v', w', hr, h2, h3, h5, h4⟩ := bapp (P := P) (w := w) (ty := o.type) hu hu' hd hs hb hz hown l1 l2 l3 hdl hone hlen
  unfold Oper.wp execOp
  simp only [ho, resolve, invoke, builtin, Sem.run_bind, Sem.run_pure, Result.andThen_ok, List.map_toArray, List.map_cons, List.map_nil, hv, hy, hr]
  exact hK _ _ (h v' w' h2 h3 h5 h4)
end Ram
