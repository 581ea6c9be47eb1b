/- A part of the proof: contracts of functions, over the abstract machine. -/
import Derived.Test.YtjaammiblfndaaaGreatDoorRb0
import Derived.Shelf.SlIterI.Nil
set_option linter.unusedVariables false
set_option linter.unusedSimpArgs false
set_option linter.all false
/- The keys of a map, sorted: the library's two functions, taken over. -/
namespace Ram
open Go Go.Maps Go.WideElems Go.MapKept Go.ChangeShapes Go.WideShapes
open Go.RowKit (Below)

variable {P : Program} {W0 : World} {ι : Inj} {D : Nat → Prop} {H : AH} {w w' : World}

/-- maps.Keys: a function over a box that holds the map. -/
theorem keys_of {K g : FuncId} {M : TypeId} (hb : HasBody P K) (hK : ∀ (mb : Option Nat) (W : World), Calls P K #[.map mb] W fun e w' => e = .returned (.func (.func g) #[] #[.pointer (some ⟨W.heap.size, 0, none⟩)]) ∧ w' = W.alloc (.cells #[.map mb] M)) {r : Option Nat} :
    ACalls P W0 K [.m r] H fun e H' => e = .ret (.f (.func g) [] [.p (some (H.next, 0))]) ∧ H' = H.alloc (.mbox r) := by
  refine ⟨hb, fun ι D w cs hv hR => ?_⟩
  cases hv with
  | cons _ c _ _ rc hn =>
    cases hn
    have hc : c = .map (r.map fun id => (ι id).b) ∧ ∀ id, r = some id → D id := by
      cases rc with
      | m0 => exact ⟨rfl, fun id h => by cases h⟩
      | m id h => exact ⟨rfl, fun j hj => by cases hj; exact h⟩
    obtain ⟨rfl, hD⟩ := hc
    refine (hK _ w).mono fun e w' ⟨he, hw⟩ => ?_
    subst hw
    have hfr := hR.fresh
    have hal := rel_alloc (o := .mbox r) (O := .cells #[.map (r.map fun id => (ι id).b)] M (0, 0)) (n := 1) (w' := w.alloc (.cells #[.map (r.map fun id => (ι id).b)] M)) hR
      ⟨rfl, rfl, rfl, by show w.heap.size ≤ (w.heap.push _).size; simp⟩ rfl (by
        refine ⟨rfl, ⟨M, ?_⟩, fun id hid => .inl (hD id hid)⟩
        show (w.heap.push _)[w.heap.size]? = _
        rw [Array.getElem?_push, if_pos rfl]
        cases r with
        | none => rfl
        | some id =>
          have : id ≠ H.next := fun e => hfr (e ▸ hD id rfl)
          simp only [Option.map_some, updI, if_neg this])
    obtain ⟨hA, hB⟩ := hal
    exact ⟨.ret _, _, _, _, ⟨rfl, rfl⟩, ⟨_, he, RV.f _ [] [.p (some (H.next, 0))] [] [.pointer (some ⟨w.heap.size, 0, none⟩)] .nil (.cons _ _ _ _ rv_new .nil)⟩, hA, hB⟩

theorem mergeSort_perm_eq {xs ys : List Int} (h : xs.Perm ys) : (xs.mergeSort fun x y => decide (x ≤ y)) = ys.mergeSort fun x y => decide (x ≤ y) := by
  have tr : ∀ a b c : Int, decide (a ≤ b) = true → decide (b ≤ c) = true → decide (a ≤ c) = true := fun a b c h1 h2 => by simp at *; omega
  have to : ∀ a b : Int, (decide (a ≤ b) || decide (b ≤ a)) = true := fun a b => by simp; omega
  have s1 := List.pairwise_mergeSort (le := fun x y : Int => decide (x ≤ y)) tr to xs
  have s2 := List.pairwise_mergeSort (le := fun x y : Int => decide (x ≤ y)) tr to ys
  refine List.Perm.eq_of_pairwise (fun a b _ _ h1 h2 => by simp at h1 h2; omega) s1 s2 ?_
  exact ((List.mergeSort_perm _ _).trans h).trans (List.mergeSort_perm _ _).symm

theorem rvs_ints : ∀ {zs : List Int} {ds : List Value}, RVs ι D (zs.map (V.i .i64)) ds ↔ ds = zs.map encZ
  | [], ds => ⟨fun h => by cases h; rfl, fun h => by subst h; exact .nil⟩
  | z :: zs, ds => by
    constructor
    · intro h
      cases h with
      | cons _ c _ cs h1 h2 =>
        cases h1
        rw [rvs_ints.1 h2]; rfl
    · intro h
      subst h
      exact .cons _ _ _ _ (.i _ _) (rvs_ints.2 rfl)

/-- slices.Sorted of a map's keys. -/
theorem sorted_of {S g : FuncId} {k : TypeId} (hb : HasBody P S) (hk : P.underlying k = some (.int .i64))
    (hS : ∀ (Bm b nn : Nat) (D0 : DataW Unit) (R : Value → Option (DataW Unit × List MemPlace)) (W : World), Bm < W.heap.size → W.cell? ⟨Bm, 0, none⟩ = some (.map (some b)) → W.ownsMap P k R b nn D0 → Maps.size D0 ≤ maxLen → Maps.size D0 * 8 ≤ 140737488355328 →
      Calls P S #[.func (.func g) #[] #[.pointer (some ⟨Bm, 0, none⟩)]] W fun e w' => ∃ (v : Value) (ss : List Int), e = .returned v ∧ ss.Perm (intKeys D0) ∧
        w'.ownsRow W.heap.size k 1 v ss.length ((ss.mergeSort (fun x y => decide (x ≤ y))).map encZ) ∧ (v = .slice none 0 0 ↔ ss = []) ∧ Below W.heap.size W w')
    {bid id : Nat} {es : List (V × V)} {zs : List Int} (hbox : H.get bid = some (.mbox (some id))) (hm : H.get id = some (.map es)) (hzs : es.map (·.1) = zs.map (V.i .i64)) (hnd : zs.Nodup)
    (hwf : ∀ z ∈ zs, -9223372036854775808 ≤ z ∧ z ≤ 9223372036854775807) (hlen : zs.length < 1000000) :
    ACalls P W0 S [.f (.func g) [] [.p (some (bid, 0))]] H fun e H' => (zs = [] ∧ e = .ret (.sl 1 none 0 0) ∧ H' = H) ∨
      (zs ≠ [] ∧ e = .ret (.sl 1 (some (H.next, 0)) zs.length zs.length) ∧ H' = H.alloc (.cells .rw ((zs.mergeSort fun x y => decide (x ≤ y)).map (V.i .i64)))) := by
  refine ⟨hb, fun ι D w cs hv hR => ?_⟩
  obtain ⟨hbo, ⟨eb, hbb⟩, hDid⟩ := hR.objs bid _ hbox
  obtain ⟨hmo, ms, clock, hmb, hes⟩ := hR.objs id _ hm
  cases hv with
  | cons _ c _ _ rc hn =>
    cases hn
    obtain ⟨fa, fb, rfl, ra, rb⟩ := rc.f_inv
    cases ra
    cases rb with
    | cons _ cp _ _ rp hn2 =>
      cases hn2
      obtain ⟨rfl, hDb⟩ := rp.ptr_inv
      rw [hbo, Nat.zero_add]
      have hkeys : ms.toList.map (·.key) = zs.map encZ := rvs_ints.1 (by rw [← hzs]; exact hes.keys)
      have hml : ms.size = zs.length := by
        have := congrArg List.length hkeys
        simpa using this
      obtain ⟨R, hRdef⟩ : ∃ R : Value → Option (DataW Unit × List MemPlace), R = fun _ => some (.nil, []) := ⟨_, rfl⟩
      have hrd : ∀ x ∈ ms.toList, ∃ z, z ∈ zs ∧ x.key = encZ z ∧ rd P k R x = some (.int .i64 z, .nil) := by
        intro x hx
        have : x.key ∈ zs.map encZ := by rw [← hkeys]; exact List.mem_map_of_mem hx
        obtain ⟨z, hz, he⟩ := List.mem_map.1 this
        have hw : (Lit.int .i64 z).wf = true := by
          obtain ⟨h1, h2⟩ := hwf z hz
          simp [Lit.wf, IntKind.has, IntKind.min, IntKind.max, IntKind.signed, IntKind.bits]; omega
        refine ⟨z, hz, he.symm, ?_⟩
        obtain ⟨key, val, born⟩ := x
        simp only at he
        subst he
        have hko : keyOf P k (encZ z) = some (.int .i64 z) := by
          show keyOf P k (.int .i64 z) = _
          simp only [keyOf, hk, mapKey]
          rw [if_pos ⟨trivial, hw⟩]
        have hrv : R val = some (.nil, []) := by rw [hRdef]
        exact rd_mk hko hrv
      have hst : Stamped ms clock := by
        refine ⟨hes.old, ?_, ?_⟩
        · have := hes.born
          exact (List.pairwise_map.2 (this.imp fun h => Nat.ne_of_lt h) : (ms.toList.map (·.born)).Nodup)
        · rw [hkeys]
          exact (List.pairwise_map.2 (hnd.imp fun h e => h (encZ_inj e)) : (zs.map encZ).Nodup)
      obtain ⟨D0, hD0⟩ : ∃ D0 : DataW Unit, D0 = .map ((ms.toList.map (rg P k R)).foldr DataW.insert []) := ⟨_, rfl⟩
      have hown : w.ownsMap P k R (ι id).b ms.size D0 := ⟨ms, clock, hmb, ⟨by rw [hml]; unfold maxLen; omega, hst, fun x hx => let ⟨z, _, _, h⟩ := hrd x hx; ⟨_, h⟩⟩, Nat.le_refl _, hD0⟩
      have hperm := sorted_perm (ms.toList.map (rg P k R))
      have hik : (intKeys D0).Perm zs := by
        rw [hD0]
        simp only [intKeys]
        refine (hperm.map _).trans (List.Perm.of_eq ?_)
        rw [List.map_map]
        have : ∀ x ∈ ms.toList, encZ (((fun p : Lit × DataW Unit => intOf p.1) ∘ rg P k R) x) = x.key := by
          intro x hx
          obtain ⟨z, _, he, hr⟩ := hrd x hx
          rw [Function.comp, rg_of hr, he]; rfl
        have h2 : (ms.toList.map ((fun p : Lit × DataW Unit => intOf p.1) ∘ rg P k R)).map encZ = zs.map encZ := by
          rw [List.map_map, ← hkeys]
          exact List.map_congr_left this
        exact (List.map_inj_right fun _ _ h => encZ_inj h).1 h2
      have hsz : Maps.size D0 = zs.length := by
        rw [hD0, Maps.size_eq, hperm.length_eq, List.length_map, Array.length_toList, hml]
      have hBm : (ι bid).b < w.heap.size := hR.inw bid hDb
      refine (hS (ι bid).b (ι id).b ms.size D0 R w hBm (by simp [World.cell?, hbb]) hown (by rw [hsz]; unfold maxLen; omega) (by rw [hsz]; omega)).mono fun e w' ⟨v, ss, he, hss, hrow, hnil, hB⟩ => ?_
      have hzp : ss.Perm zs := hss.trans hik
      have hR' := rel_more hR (below_same hB) hB.block
      have hS' := stp_more (ι := ι) (D := D) (H := H) (below_same hB) hB.block
      by_cases hz : zs = []
      · have hsn : ss = [] := by
          have := hzp.length_eq; rw [hz] at this; exact List.eq_nil_of_length_eq_zero this
        have hvn := hnil.2 hsn
        subst hvn
        exact ⟨.ret (.sl 1 none 0 0), ι, D, H, .inl ⟨hz, rfl, rfl⟩, ⟨_, he, .sl0 _⟩, hR', hS'⟩
      · have hsn : ss ≠ [] := by
          intro h; rw [h] at hzp
          exact hz (List.eq_nil_of_length_eq_zero (by simpa using hzp.length_eq.symm))
        rw [mergeSort_perm_eq hzp] at hrow
        obtain ⟨hlen1, hor⟩ := hrow
        rcases hor with ⟨hv0, _⟩ | ⟨gb, cap, cur, rfl, hbase, hgb, hc1, hc2, hc3, hc4⟩
        · exact (hsn (hnil.1 hv0)).elim
        · have hsl : ss.length = zs.length := hzp.length_eq
          rw [hsl] at hlen1 hc1 hc4 he
          rw [Nat.mul_one] at hc3 hc4
          have hin : gb < w'.heap.size := (Array.getElem?_eq_some_iff.1 hgb).1
          have hW0 : W0.heap.size ≤ w.heap.size := hR.below.size
          have hltj : ∀ j u, H.get j = some u → u.live = true → (ι j).b < w.heap.size := fun j u hu hl => hR.inw j (hR.dom j u hu hl)
          have hfr := hR.fresh
          have hmsl : (zs.mergeSort fun x y => decide (x ≤ y)).length = zs.length := List.length_mergeSort _
          have so : SameOut w' w' := ⟨rfl, rfl, rfl, Nat.le_refl _⟩
          have hnew := rel_new (pl := ⟨gb, 0, cap⟩) (o := .cells .rw ((zs.mergeSort fun x y => decide (x ≤ y)).map (V.i .i64))) (w' := w') hR' so (fun _ _ _ _ => rfl) (fun _ _ => rfl) (fun j u hu hl => by have := hltj j u hu hl; simp only; omega) (by simp only; omega) hin (by
            refine ⟨cur, k, (0, 0), hgb, hc3, by simp [hmsl]; omega, ?_, ?_, fun _ => rfl, fun h => by cases h⟩
            · intro x hx
              obtain ⟨z, _, rfl⟩ := List.mem_map.1 hx
              rfl
            · rw [List.drop_zero, List.length_map, hmsl, hc4]
              exact rvs_ints.2 rfl)
          have hstn := stp_new (pl := ⟨gb, 0, cap⟩) (o := .cells .rw ((zs.mergeSort fun x y => decide (x ≤ y)).map (V.i .i64))) (w' := w') hR (below_same hB) (fun b hb _ => hB.block b hb) (.inl (by simp only; omega))
          refine ⟨.ret (.sl 1 (some (H.next, 0)) zs.length zs.length), _, _, _, .inr ⟨hz, rfl, rfl⟩, ⟨_, he, ?_⟩, hnew, hstn⟩
          have := RV.sl (ι := updI ι H.next ⟨gb, 0, cap⟩) (D := addD D H.next) 1 H.next 0 ⟨gb, 0, none⟩ zs.length zs.length cap (.inr rfl) hc1 hc1 hc2 (.inr ⟨by simp [updI], by simp [updI]⟩)
          exact this
end Ram
