/- the abstract machine: its operations are true of the model. -/
import Derived.Test.YtjaammiblfndaaaGreatDoorRaA
import Derived.Laws.IdiomStrings
import Derived.Laws.MakeOwn
import Derived.TacticsIn
import Derived.RangeFuncRecord
set_option linter.unusedVariables false
set_option linter.unusedSimpArgs false
set_option linter.all false
/- What is read of memory. -/
namespace Ram
open Go
open Go.RowKit (Below Hid)

variable {P : Program} {W0 : World} {ι : Inj} {D : Nat → Prop} {N : Nat} {ds : List Deferred} {env : Env} {a : Act} {w : World} {H : AH}

theorem RVs.one {vs : List V} {cs : List Value} (h : RVs ι D vs cs) (h1 : ∀ v ∈ vs, v.one = true) : ∀ c ∈ cs, c.oneCell' = true := by
  induction vs generalizing cs with
  | nil => cases h; simp
  | cons v vs ih =>
    cases h with
    | cons _ c _ cs a b =>
      intro d hd
      rcases List.mem_cons.1 hd with rfl | hd
      · exact a.one (h1 v (by simp))
      · exact ih b (fun v hv => h1 v (by simp [hv])) d hd

/-- A row's cells, as they lie. -/
theorem row_cells (hR : Rel P W0 ι D H w) {id o n : Nat} {vs : List V} (h : ldCells H id o n = some vs) :
    ∃ ds : List Value, RVs ι D vs ds ∧ ds.length = n ∧ (∀ (j : Nat) u, ds[j]? = some u → w.cell? ((⟨(ι id).b, (ι id).o + o, none⟩ : Addr).add j) = some u) ∧ (∀ v ∈ vs, v.one = true) ∧ (ι id).o + o + n ≤ (ι id).n := by
  unfold ldCells at h
  split at h
  · next md cs hg =>
    split at h
    · next hle =>
      simp only [Option.some.injEq] at h; subst h
      obtain ⟨c, e, fr, h1, h2, h3, h4, h5, _, _⟩ := hR.objs _ _ hg
      have hd := (h5.drop o).take n
      refine ⟨_, hd, ?_, ?_, ?_, by omega⟩
      · have := hd.length
        rw [← this]; simp; omega
      · intro j u hu
        rw [Addr_add]
        simp only [World.cell?, h1, Option.isSome_none, Bool.false_eq_true, if_false]
        rw [List.getElem?_take] at hu
        split at hu
        · rw [List.getElem?_drop, List.getElem?_take] at hu
          split at hu
          · rw [List.getElem?_drop] at hu
            rw [← Array.getElem?_toList, ← hu]
            congr 1; omega
          · cases hu
        · cases hu
      · intro v hv
        exact h4 v (List.mem_of_mem_drop (List.mem_of_mem_take hv))
    · cases h
  · cases h

theorem cell_one (hR : Rel P W0 ι D H w) {id o : Nat} {md : Md} {cs : List V} {v : V} (hg : H.get id = some (.cells md cs)) (h : cs[o]? = some v) :
    ∃ c, w.cell? ⟨(ι id).b, (ι id).o + o, none⟩ = some c ∧ RV ι D v c ∧ v.one = true := by
  have hl := (List.getElem?_eq_some_iff.1 h).1
  have hld : ldCells H id o 1 = some [v] := by
    unfold ldCells
    simp only [hg]
    rw [if_pos (by omega)]
    congr 1
    apply List.ext_getElem?
    intro i
    cases i with
    | zero => simp [h]
    | succ i => simp; omega
  obtain ⟨ds, r, l, hc, ho, _⟩ := row_cells hR hld
  cases r with
  | cons _ c _ cs' r1 r2 =>
    refine ⟨c, ?_, r1, ho v (by simp)⟩
    have := hc 0 c (by simp)
    rw [Addr_add] at this
    simpa using this

theorem yld_ld1 (hR : Rel P W0 ι D H w) {t : TypeId} {x : Operand} {x' : X} {v : V} (ha : isAggT P t = some false) (hx : cX x = some x') (h : aread (.ld1 x') env H = some v) (he : REnv ds ι D N env a) :
    Yld P ι D (Instr.loadAt t (a.eval x)) w v := by
  simp only [aread] at h
  split at h
  · next id o hv =>
    split at h
    · next md cs hg =>
      obtain ⟨e, _⟩ := (cX_sound hx hv he).ptr_inv
      obtain ⟨c, h1, h2, _⟩ := cell_one hR hg h
      refine ⟨c, ?_, h2⟩
      unfold Instr.loadAt loadVar
      simp only [e, Instr.sureAddr, Sem.run_bind, Sem.run_pure, Result.andThen_ok, run_isAgg ha, Bool.false_eq_true, if_false, run_load, h1]
    · cases h
  · cases h

theorem yld_ldN (hR : Rel P W0 ι D H w) {t n : Nat} {x : Operand} {x' : X} {v : V} (ha : isAggT P t = some true) (hs : sizeT P t = some n) (hx : cX x = some x') (h : aread (.ldN n x') env H = some v) (he : REnv ds ι D N env a) :
    Yld P ι D (Instr.loadAt t (a.eval x)) w v := by
  simp only [aread] at h
  split at h
  · next id o hv =>
    split at h
    · next cs hg =>
      simp only [Option.some.injEq] at h; subst h
      obtain ⟨e, _⟩ := (cX_sound hx hv he).ptr_inv
      obtain ⟨ds, r, l, hc, _, _⟩ := row_cells hR hg
      refine ⟨.agg ds.toArray, ?_, RV.agg _ _ r⟩
      have hl := run_loadCells_list (P := P) w ⟨(ι id).b, (ι id).o + o, none⟩ ds hc
      unfold Instr.loadAt loadVar
      simp only [e, Instr.sureAddr, Sem.run_bind, Sem.run_pure, Result.andThen_ok, run_isAgg ha, if_true, run_sizeOf hs, ← l, hl]
    · cases h
  · cases h

theorem yld_slArr (hR : Rel P W0 ι D H w) {t e n es : Nat} {x : Operand} {x' : X} {lo hi : Option Operand} {lo' hi' : Option X} {v : V} (hu : P.underlying t = some (.array n e)) (hs : sizeT P e = some es) (hn : n ≤ maxLen) (hx : cX x = some x') (hl : cXo lo = some lo')
    (hh : cXo hi = some hi') (h : aread (.slArr n es x' lo' hi') env H = some v) (he : REnv ds ι D N env a) :
    Yld P ι D (Instr.sliceAt t (a.eval x) (lo.map a.eval) (hi.map a.eval) none) w v := by
  simp only [aread] at h
  split at h
  · next id o hv =>
    split at h
    · next md cs l q hg hc =>
      split at h
      · next hb =>
        simp only [Option.some.injEq] at h; subst h
        obtain ⟨c, e, fr, h1, h2, h3, _⟩ := hR.objs _ _ hg
        obtain ⟨e1, hd⟩ := (cX_sound hx hv he).ptr_inv
        obtain ⟨b1, b2, b3⟩ := cut2_sound (P := P) (w := w) (isS := false) hl hh hc he
        have hln : l ≤ n := by omega
        refine ⟨_, ?_, RV.sl es id (o + l * es) (if n = l then (⟨(ι id).b, (ι id).o + o, none⟩ : Addr) else (⟨(ι id).b, (ι id).o + o, none⟩ : Addr).add (l * es)) (q - l) (n - l) (n - l) hd (by omega) (Nat.le_refl _) (by omega) ?_⟩
        · unfold Instr.sliceAt
          simp only [Sem.run_bind, run_underlying hu, Result.andThen_ok, e1, Instr.sureAddr, b1, run_sizeOf hs, Sem.run_pure]
        · by_cases hcl : n = l
          · exact .inl (by omega)
          · exact .inr ⟨by rw [if_neg hcl, Addr_add, Nat.add_assoc], cells_bound (cc := n) (by omega) hln⟩
      · cases h
    · cases h
  · cases h

theorem run_getObj {r : Nat} {o : Obj} (h : w.heap[r]? = some o) (hn : ∀ c e f, o ≠ .cells c e f) : (getObj r).run P w = .ok o w := by
  cases o <;> first | (simp only [getObj, Sem.run, h]; done) | exact absurd rfl (hn _ _ _)

theorem checkKey_sound {t : TypeId} {ks : KS} {k : V} {c : Value} {em : Bool} (ht : keyT P t = some ks) (hk : RV ι D k c) (ho : keyOk ks k = true) : (Instr.checkKey em 10000 t c).run P w = .ok () w := by
  unfold keyT at ht
  split at ht
  · next kk hkk =>
    unfold kindT at hkk
    rw [Instr.checkKey]
    split at hkk <;> simp at hkk
    all_goals
      next hu =>
      simp only [Sem.run_bind, run_underlying hu, Result.andThen_ok]
      rfl
  · split at ht
    · next l hl =>
      split at ht
      rotate_left
      · cases ht
      simp only [Option.some.injEq] at ht; subst ht
      unfold flatT at hl
      split at hl
      · next fs hu =>
        split at hl
        · cases hl
        · cases k with
          | agg xs =>
            obtain ⟨ds, rfl, r⟩ := hk.agg_inv
            rw [Instr.checkKey]
            simp only [Sem.run_bind, run_underlying hu, Result.andThen_ok]
            rw [← Array.forIn_toList]
            have key : ∀ (l : List Field) (m : List (Nat × KK)), flatFs P l = some m → (m.all fun p => decide (p.1 < xs.length)) = true →
                ((forIn l PUnit.unit fun (f : Field) _ => (do
                  if f.name ≠ "_" then do
                    Instr.checkKey em 9999 f.type (← part f.type ds.toArray f.offset)
                    pure (ForInStep.yield PUnit.unit)
                  else pure (ForInStep.yield PUnit.unit) : Sem (ForInStep PUnit)))).run P w = .ok PUnit.unit w := by
              intro l
              induction l with
              | nil => intro m _ _; simp
              | cons f l ih =>
                intro m hm hall
                unfold flatFs at hm
                split at hm
                · cases hm
                · next hn =>
                  split at hm
                  · next kk m' hk hm' =>
                    simp only [Option.some.injEq] at hm; subst hm
                    simp only [List.all_cons, Bool.and_eq_true, decide_eq_true_eq] at hall
                    obtain ⟨c, c1, _⟩ := r.get f.offset (xs[f.offset]'hall.1) (by simp [hall.1])
                    have pc : (part f.type ds.toArray f.offset).run P w = .ok c w := by simp [part, run_isAgg (isAgg_kind hk), c1]
                    have hck : (Instr.checkKey em 9999 f.type c).run P w = .ok () w := by
                      unfold kindT at hk
                      rw [Instr.checkKey]
                      split at hk <;> simp at hk
                      all_goals
                        next hu =>
                        simp only [Sem.run_bind, run_underlying hu, Result.andThen_ok]
                        rfl
                    simp only [List.forIn_cons, Sem.run_bind, ne_eq, hn, not_false_eq_true, if_true, pc, Result.andThen_ok, hck, Sem.run_pure]
                    exact ih m' hm' hall.2
                  · cases hm
            rw [key fs.toList l hl ho]; rfl
          | _ => cases ho
      · cases hl
    · cases ht

theorem equal_key {t : TypeId} {ks : KS} {k k' : V} {c c' : Value} {r : Bool} (ht : keyT P t = some ks) (hk : RV ι D k c) (hk' : RV ι D k' c') (h : sameKey ks k k' = some r) : (Op.equal t c c').run P w = .ok r w := by
  unfold keyT at ht
  split at ht
  · next kk hkk =>
    simp only [Option.some.injEq] at ht; subst ht
    exact sameCell_sound (dp := 9999) hkk hk hk' h
  · split at ht
    · next l hl =>
      split at ht
      rotate_left
      · cases ht
      simp only [Option.some.injEq] at ht; subst ht
      cases k with
      | agg xs =>
        cases k' with
        | agg ys =>
          obtain ⟨ds, rfl, r1⟩ := hk.agg_inv
          obtain ⟨es, rfl, r2⟩ := hk'.agg_inv
          simp only [sameKey] at h
          split at h
          · exact eqAgg_sound hl r1 r2 h
          · cases h
        | _ => cases h
      | _ => cases h
    · cases ht

/-- What a search finds, in the model. -/
def Found (ι : Inj) (D : Nat → Prop) (ms : List MapEntry) (off : Nat) : Option (Nat × V) → Option (Nat × Value) → Prop
  | none, r => r = none
  | some (j, v), r => ∃ m, r = some (off + j, m.val) ∧ ms[j]? = some m ∧ RV ι D v m.val

theorem findAsking_sound {t : TypeId} {ks : KS} {k : V} {c : Value} (ht : keyT P t = some ks) (hk : RV ι D k c) : ∀ {es : List (V × V)} {ms : List MapEntry} {r : Option (Nat × V)} (off : Nat),
    RVs ι D (es.map (·.1)) (ms.map (·.key)) → RVs ι D (es.map (·.2)) (ms.map (·.val)) → findV ks k es = some r →
    ∃ r', (Instr.findAsking t c ms off).run P w = .ok r' w ∧ Found ι D ms off r r'
  | [], ms, r, off, h1, h2, h => by
    cases ms with
    | nil => simp only [findV, Option.some.injEq] at h; subst h; exact ⟨none, rfl, rfl⟩
    | cons m ms => cases h1
  | (k', v) :: es, ms, r, off, h1, h2, h => by
    cases ms with
    | nil => cases h1
    | cons m ms =>
      simp only [List.map_cons] at h1 h2
      cases h1 with
      | cons _ _ _ _ a1 a2 =>
        cases h2 with
        | cons _ _ _ _ b1 b2 =>
          unfold findV at h
          split at h
          · next hs =>
            simp only [Option.some.injEq] at h; subst h
            have he := equal_key (P := P) (w := w) ht hk a1 hs
            refine ⟨some (off, m.val), ?_, m, by simp, by simp, b1⟩
            simp only [Instr.findAsking, Sem.run_bind, he, Result.andThen_ok, if_true, Sem.run_pure]
          · next hs =>
            have he := equal_key (P := P) (w := w) ht hk a1 hs
            have step : ∀ r0, findV ks k es = some r0 → ∃ r', (Instr.findAsking t c (m :: ms) off).run P w = .ok r' w ∧ Found ι D ms (off + 1) r0 r' := by
              intro r0 h0
              obtain ⟨r', g1, g2⟩ := findAsking_sound ht hk (off + 1) a2 b2 h0
              refine ⟨r', ?_, g2⟩
              simp only [Instr.findAsking, Sem.run_bind, he, Result.andThen_ok, Bool.false_eq_true, if_false]
              exact g1
            split at h
            · next j u hj =>
              simp only [Option.some.injEq] at h; subst h
              obtain ⟨r', g1, m', g2, g3, g4⟩ := step _ hj
              exact ⟨r', g1, m', by rw [g2]; congr 2; omega, by simpa using g3, g4⟩
            · next hj =>
              simp only [Option.some.injEq] at h; subst h
              obtain ⟨r', g1, g2⟩ := step _ hj
              exact ⟨r', g1, g2⟩
            · cases h
          · cases h

theorem findNow_sound {kd : TypeDesc} {kk : KK} {k : V} {c : Value} (ht : (kk = .b ∧ kd = .bool) ∨ (kk = .s ∧ kd = .string) ∨ (kk = .i ∧ ∃ q, kd = .int q)) (hk : RV ι D k c) : ∀ {es : List (V × V)} {ms : List MapEntry} {r : Option (Nat × V)} (off : Nat),
    RVs ι D (es.map (·.1)) (ms.map (·.key)) → RVs ι D (es.map (·.2)) (ms.map (·.val)) → findV (.one kk) k es = some r →
    ∃ r', Instr.findNow kd c ms off = some r' ∧ Found ι D ms off r r'
  | [], ms, r, off, h1, h2, h => by
    cases ms with
    | nil => simp only [findV, Option.some.injEq] at h; subst h; exact ⟨none, rfl, rfl⟩
    | cons m ms => cases h1
  | (k', v) :: es, ms, r, off, h1, h2, h => by
    cases ms with
    | nil => cases h1
    | cons m ms =>
      simp only [List.map_cons] at h1 h2
      cases h1 with
      | cons _ _ _ _ a1 a2 =>
        cases h2 with
        | cons _ _ _ _ b1 b2 =>
          have same : ∀ b, sameCell kk k k' = some b → Instr.sameNow kd c m.key = some b := by
            intro b hb
            unfold sameCell at hb
            split at hb
            · have e1 := hk.int_inv; have e2 := a1.int_inv
              rw [e1, e2]
              rcases ht with ⟨ht, _⟩ | ⟨ht, _⟩ | ⟨_, q, rfl⟩
              · cases ht
              · cases ht
              · exact hb
            · have e1 := hk.bool_inv; have e2 := a1.bool_inv
              rw [e1, e2]
              rcases ht with ⟨_, rfl⟩ | ⟨ht, _⟩ | ⟨ht, _⟩
              · exact hb
              · cases ht
              · cases ht
            · have e1 := hk.str_inv; have e2 := a1.str_inv
              rw [e1, e2]
              rcases ht with ⟨ht, _⟩ | ⟨_, rfl⟩ | ⟨ht, _⟩
              · cases ht
              · simp only [Instr.sameNow, beq_toListBytes, beq_lists]; exact hb
              · cases ht
            · cases hb
          unfold findV at h
          simp only [sameKey] at h
          split at h
          · next hs =>
            simp only [Option.some.injEq] at h; subst h
            refine ⟨some (off, m.val), ?_, m, by simp, by simp, b1⟩
            simp only [Instr.findNow, same _ hs]
          · next hs =>
            have step : ∀ r0, findV (.one kk) k es = some r0 → ∃ r', Instr.findNow kd c (m :: ms) off = some r' ∧ Found ι D ms (off + 1) r0 r' := by
              intro r0 h0
              obtain ⟨r', g1, g2⟩ := findNow_sound ht hk (off + 1) a2 b2 h0
              exact ⟨r', by simp only [Instr.findNow, same _ hs]; exact g1, g2⟩
            split at h
            · next j u hj =>
              simp only [Option.some.injEq] at h; subst h
              obtain ⟨r', g1, m', g2, g3, g4⟩ := step _ hj
              exact ⟨r', g1, m', by rw [g2]; congr 2; omega, by simpa using g3, g4⟩
            · next hj =>
              simp only [Option.some.injEq] at h; subst h
              obtain ⟨r', g1, g2⟩ := step _ hj
              exact ⟨r', g1, g2⟩
            · cases h
          · cases h

theorem findKey_sound {t : TypeId} {ks : KS} {k : V} {c : Value} {es : List (V × V)} {ms : List MapEntry} {r : Option (Nat × V)} (ht : keyT P t = some ks) (hk : RV ι D k c) (h1 : RVs ι D (es.map (·.1)) (ms.map (·.key)))
    (h2 : RVs ι D (es.map (·.2)) (ms.map (·.val))) (h : findV ks k es = some r) : ∃ r', (Instr.findKey t c ms).run P w = .ok r' w ∧ Found ι D ms 0 r r' := by
  have ht' := ht
  unfold keyT at ht
  split at ht
  · next kk hkk =>
    simp only [Option.some.injEq] at ht; subst ht
    have hu : ∃ kd, P.underlying t = some kd ∧ ((kk = .b ∧ kd = .bool) ∨ (kk = .s ∧ kd = .string) ∨ (kk = .i ∧ ∃ q, kd = .int q)) := by
      unfold kindT at hkk
      split at hkk <;> simp at hkk <;> subst hkk
      · exact ⟨_, ‹_›, .inl ⟨rfl, rfl⟩⟩
      · exact ⟨_, ‹_›, .inr (.inr ⟨rfl, _, rfl⟩)⟩
      · exact ⟨_, ‹_›, .inr (.inl ⟨rfl, rfl⟩)⟩
    obtain ⟨kd, hu, hkd⟩ := hu
    obtain ⟨r', g1, g2⟩ := findNow_sound hkd hk 0 h1 h2 h
    refine ⟨r', ?_, g2⟩
    simp only [Instr.findKey, Sem.run_bind, run_underlying hu, Result.andThen_ok, g1, Sem.run_pure]
  · split at ht
    · next l hl =>
      split at ht
      rotate_left
      · cases ht
      simp only [Option.some.injEq] at ht; subst ht
      obtain ⟨r', g1, g2⟩ := findAsking_sound (w := w) ht' hk 0 h1 h2 h
      have hu : ∃ fs, P.underlying t = some (.struct fs) := by
        unfold flatT at hl; split at hl
        · exact ⟨_, ‹_›⟩
        · cases hl
      obtain ⟨fs, hu⟩ := hu
      cases ms with
      | nil =>
        cases es with
        | nil =>
          simp only [findV, Option.some.injEq] at h; subst h
          exact ⟨none, by simp [Instr.findKey, run_underlying hu, Instr.findNow], rfl⟩
        | cons e es => cases h1
      | cons m ms =>
        have hn : Instr.findNow (.struct fs) c (m :: ms) 0 = none := by simp [Instr.findNow, Instr.sameNow]
        refine ⟨r', ?_, g2⟩
        simp only [Instr.findKey, Sem.run_bind, run_underlying hu, Result.andThen_ok, hn]
        exact g1
    · cases ht

end Ram

/- What is read of memory: maps, texts, pointers held against each other. -/
namespace Ram
open Go
open Go.RowKit (Below Hid)

variable {P : Program} {W0 : World} {ι : Inj} {D : Nat → Prop} {N : Nat} {ds : List Deferred} {env : Env} {a : Act} {w : World} {H : AH}

theorem yld_lookup (hR : Rel P W0 ι D H w) {t kt e : TypeId} {ks : KS} {z : V} {ok : Bool} {m k : Operand} {m' k' : X} {v : V} (hu : P.underlying t = some (.map kt e)) (hk : keyT P kt = some ks) (hz : zeroV P e = some z)
    (hm : cX m = some m') (hkx : cX k = some k') (h : aread (.lookup ks z ok m' k') env H = some v) (he : REnv ds ι D N env a) : Yld P ι D (Instr.lookup t (a.eval m) (a.eval k) ok) w v := by
  obtain ⟨zc, z1, z2⟩ := run_zeroV (ι := ι) (D := D) hz w
  simp only [aread] at h
  split at h
  · next kv hm0 hk0 =>
    split at h
    · next hko =>
      simp only [Option.some.injEq] at h; subst h
      have e1 := (cX_sound hm hm0 he).map0_inv
      have rk := cX_sound hkx hk0 he
      obtain ⟨r', g1, g2⟩ := findKey_sound (P := P) (w := w) (es := []) (ms := []) (r := none) hk rk .nil .nil rfl
      simp only [Found] at g2; subst g2
      have hck := checkKey_sound (P := P) (w := w) (em := (#[] : Array MapEntry).isEmpty) hk rk hko
      have hrun : (Instr.lookup t (a.eval m) (a.eval k) ok).run P w = .ok (if ok then .tuple #[zc, .bool false] else zc) w := by
        unfold Instr.lookup
        rw [e1]
        have g1' : (Instr.findKey kt (a.eval k) (#[] : Array MapEntry).toList).run P w = .ok none w := g1
        simp only [Sem.run_bind, run_underlying hu, Result.andThen_ok, Sem.run_pure, hck, g1', z1]
      cases ok
      · exact ⟨_, hrun, z2⟩
      · exact ⟨_, hrun, RV.tup _ [zc, .bool false] (.cons _ _ _ _ z2 (.cons _ _ _ _ (.b false) .nil))⟩
    · cases h
  · next id kv hm0 hk0 =>
    split at h
    · next hko =>
      split at h
      · next es hg =>
        obtain ⟨e1, _⟩ := (cX_sound hm hm0 he).map_inv
        have rk := cX_sound hkx hk0 he
        obtain ⟨_, ms, clock, hb, hes⟩ := hR.objs _ _ hg
        have hgo := run_getObj (P := P) hb (by intro c e f h; cases h)
        have hck := checkKey_sound (P := P) (w := w) (em := ms.isEmpty) hk rk hko
        split at h
        · next q i u hf =>
          simp only [Option.some.injEq] at h; subst h
          obtain ⟨r', g1, mm, g2, g3, g4⟩ := findKey_sound (P := P) (w := w) hk rk hes.keys hes.vals hf
          subst g2
          have hrun : (Instr.lookup t (a.eval m) (a.eval k) ok).run P w = .ok (if ok then .tuple #[mm.val, .bool true] else mm.val) w := by
            unfold Instr.lookup
            rw [e1]
            simp only [Sem.run_bind, run_underlying hu, Result.andThen_ok, Sem.run_pure, hgo, hck, g1]
          cases ok
          · exact ⟨_, hrun, g4⟩
          · exact ⟨_, hrun, RV.tup _ [mm.val, .bool true] (.cons _ _ _ _ g4 (.cons _ _ _ _ (.b true) .nil))⟩
        · next hf =>
          simp only [Option.some.injEq] at h; subst h
          obtain ⟨r', g1, g2⟩ := findKey_sound (P := P) (w := w) hk rk hes.keys hes.vals hf
          simp only [Found] at g2; subst g2
          have hrun : (Instr.lookup t (a.eval m) (a.eval k) ok).run P w = .ok (if ok then .tuple #[zc, .bool false] else zc) w := by
            unfold Instr.lookup
            rw [e1]
            simp only [Sem.run_bind, run_underlying hu, Result.andThen_ok, Sem.run_pure, hgo, hck, g1, z1]
          cases ok
          · exact ⟨_, hrun, z2⟩
          · exact ⟨_, hrun, RV.tup _ [zc, .bool false] (.cons _ _ _ _ z2 (.cons _ _ _ _ (.b false) .nil))⟩
        · cases h
      · cases h
    · cases h
  · cases h

theorem RVs.len_map {es : List (V × V)} {ms : List MapEntry} (h : RVs ι D (es.map (·.1)) (ms.map (·.key))) : es.length = ms.length := by
  have := h.length; simpa using this

theorem yld_lenM (hR : Rel P W0 ι D H w) {t ty kt et : TypeId} {x : Operand} {x' : X} {v : V} (hu : P.underlying t = some (.map kt et)) (hx : cX x = some x') (h : aread (.lenM x') env H = some v) (he : REnv ds ι D N env a) {ts : Array TypeId} (ht : ts[0]? = some t) :
    Yld P ι D (Builtin.len_ ts ty #[a.eval x]) w v := by
  simp only [aread] at h
  split at h
  · next hv =>
    simp only [Option.some.injEq] at h; subst h
    have e := (cX_sound hx hv he).map0_inv
    refine ⟨_, ?_, RV.i _ _⟩
    unfold Builtin.len_
    simp [ht, run_underlying hu, e, goInt]
  · next id hv =>
    split at h
    · next es hg =>
      simp only [Option.some.injEq] at h; subst h
      obtain ⟨e, _⟩ := (cX_sound hx hv he).map_inv
      obtain ⟨_, ms, clock, hb, hes⟩ := hR.objs _ _ hg
      have hgo := run_getObj (P := P) hb (by intro c e f h; cases h)
      have hl := hes.keys.len_map
      refine ⟨_, ?_, RV.i _ _⟩
      unfold Builtin.len_
      simp [ht, run_underlying hu, e, goInt, hgo, hl]
    · cases h
  · cases h

theorem asBytes_sound : ∀ {vs : List V} {cs : List Value} {l : List UInt8}, RVs ι D vs cs → asBytes vs = some l → ∃ ns : List Int, cs = ns.map (fun n => Value.int .u8 n) ∧ l = ns.map fun n => UInt8.ofNat n.toNat
  | [], cs, l, hr, h => by
    cases hr; simp only [asBytes, Option.some.injEq] at h; subst h; exact ⟨[], rfl, rfl⟩
  | v :: vs, cs, l, hr, h => by
    cases hr with
    | cons _ c _ cs r1 r2 =>
      unfold asBytes at h
      split at h
      · next heq => cases heq
      · next n r heq =>
        obtain ⟨rfl, rfl⟩ := List.cons.inj heq
        split at h
        · next l' hl =>
          simp only [Option.some.injEq] at h; subst h
          obtain ⟨ns, e1, e2⟩ := asBytes_sound r2 hl
          have e := r1.int_inv
          exact ⟨n :: ns, by simp [e, e1], by simp [e2]⟩
        · cases h
      · cases h

theorem bytes_loop (f : Value → ByteArray → Sem (ForInStep ByteArray)) (hf : ∀ (n : Int) s, f (.int .u8 n) s = pure (ForInStep.yield (s.push (UInt8.ofNat n.toNat)))) : ∀ (ns : List Int) (s : ByteArray),
    (forIn (ns.map fun n => Value.int .u8 n) s f).run P w = .ok ⟨(s.data.toList ++ ns.map fun n => UInt8.ofNat n.toNat).toArray⟩ w
  | [], s => by simp
  | n :: ns, s => by
    simp only [List.map_cons, List.forIn_cons, Sem.run_bind, hf, Sem.run_pure, Result.andThen_ok]
    rw [bytes_loop f hf ns]
    simp

theorem yld_b2s (hR : Rel P W0 ι D H w) {src dst e : TypeId} {x : Operand} {x' : X} {v : V} (hs : P.underlying src = some (.slice e)) (he8 : P.underlying e = some (.int .u8)) (hd : P.underlying dst = some .string) (hx : cX x = some x')
    (h : aread (.b2s x') env H = some v) (he : REnv ds ι D N env a) : Yld P ι D (convert src dst (a.eval x)) w v := by
  have hconv : ∀ q n m, (convert src dst (.slice q n m)).run P w = (Conv.bytesToString (.slice q n m)).run P w := by
    intro q n m
    unfold convert
    simp only [Sem.run_bind, run_underlying hs, run_underlying hd, Result.andThen_ok, run_underlying he8]
  simp only [aread] at h
  split at h
  · next es n m hv =>
    simp only [Option.some.injEq] at h; subst h
    obtain ⟨e1, _, _⟩ := (cX_sound hx hv he).sl0_inv
    refine ⟨.string .empty, ?_, RV.str rfl⟩
    rw [e1, hconv]; rfl
  · next id o len cap hv =>
    split at h
    · next cs hc =>
      split at h
      · next l hl =>
        simp only [Option.some.injEq] at h; subst h
        obtain ⟨cc, k, e1, _, h1, _, _, h4⟩ := (cX_sound hx hv he).sl_inv
        obtain ⟨ds, r, hlen, hcell, _, _⟩ := row_cells hR hc
        obtain ⟨ns, f1, f2⟩ := asBytes_sound r hl
        have hload : (loadCells k len).run P w = .ok ds.toArray w := by
          rcases h4 with h4 | ⟨h4, _⟩
          · have : len = 0 := by omega
            subst this
            have : ds = [] := List.eq_nil_of_length_eq_zero hlen
            subst this
            rfl
          · subst h4
            rw [← hlen]
            exact run_loadCells_list w _ ds hcell
        refine ⟨.string ⟨(ns.map fun n => UInt8.ofNat n.toNat).toArray⟩, ?_, RV.str (by simp [f2])⟩
        rw [e1, hconv]
        unfold Conv.bytesToString
        simp only [Sem.run_bind, hload, Result.andThen_ok]
        subst f1
        simp only [← Array.forIn_toList]
        rw [bytes_loop _ (by intro n s; rfl) ns ByteArray.empty]
        simp
      · cases h
    · cases h
  · cases h

/-- The block of a row that is written, never a text's. -/
theorem plain_block (hR : Rel P W0 ι D H w) {id : Nat} {cs : List V} (hg : H.get id = some (.cells .rw cs)) : ∃ c e, w.heap[(ι id).b]? = some (.cells c e (0, 0)) := by
  obtain ⟨c, e, fr, h1, _, _, _, _, h6, _⟩ := hR.objs _ _ hg
  have := h6 rfl
  subst this
  exact ⟨c, e, h1⟩

theorem frozen_plain {b o : Nat} {c : Array Value} {e : TypeId} (h : w.heap[b]? = some (.cells c e (0, 0))) : w.frozen? ⟨b, o, none⟩ = false := by
  simp [World.frozen?, h]

theorem same_plain {i j o u : Nat} {ci cj : Array Value} {ei ej : TypeId} (hi : w.heap[i]? = some (.cells ci ei (0, 0))) (hj : w.heap[j]? = some (.cells cj ej (0, 0))) (hne : i ≠ j) : (sameAddr ⟨i, o, none⟩ ⟨j, u, none⟩).run P w = .ok false w := by
  have vi : (viewAt i).run P w = .ok none w := by simp [viewAt, World.shape?, hi]
  have vj : (viewAt j).run P w = .ok none w := by simp [viewAt, World.shape?, hj]
  have ni : (noView ⟨i, o, none⟩).run P w = .ok () w := by simp [noView, vi]
  have nj : (noView ⟨j, u, none⟩).run P w = .ok () w := by simp [noView, vj]
  have fi : ∀ k, w.frozen? ⟨i, k, none⟩ = false := fun k => frozen_plain hi
  have fj : ∀ k, w.frozen? ⟨j, k, none⟩ = false := fun k => frozen_plain hj
  have si : (stringish ⟨i, o, none⟩).run P w = .ok false w := by simp [stringish, fi, World.shape?, hi]
  have sj : (stringish ⟨j, u, none⟩).run P w = .ok false w := by simp [stringish, fj, World.shape?, hj]
  have hm : (mayBeOne ⟨i, o, none⟩ ⟨j, u, none⟩).run P w = .ok false w := by
    simp [mayBeOne, si, sj]
  unfold sameAddr
  simp [hne, fi, fj, ni, nj, hm]

theorem yld_peq (hR : Rel P W0 ι D H w) {neg : Bool} {op : BinOp} {t e n : Nat} {x y : Operand} {x' y' : X} {v : V} (hu : P.underlying t = some (.pointer e)) (hs : sizeT P e = some (n + 1)) (hop : op = if neg then .neq else .eql)
    (hx : cX x = some x') (hy : cX y = some y') (h : aread (.peq neg x' y') env H = some v) (he : REnv ds ι D N env a) :
    Yld P ι D (do eqGuard op t x y (a.eval x) (a.eval y); Go.binOp op t (a.eval x) (a.eval y)) w v := by
  have hop' : op = .eql ∨ op = .neq := by cases neg <;> simp_all
  have hg : ∀ p q, (eqGuard op t x y (.pointer p) (.pointer q)).run P w = .ok () w := by intro p q; unfold eqGuard; rcases hop' with rfl | rfl <;> rfl
  have hb : ∀ p q, ∀ op, op = .eql ∨ op = .neq → Go.binOp op t (.pointer p) (.pointer q) = (if op = .eql then (do pure (.bool (← Op.equal t (.pointer p) (.pointer q)))) else (do pure (.bool (!(← Op.equal t (.pointer p) (.pointer q)))))) := by
    rintro p q op (rfl | rfl) <;> rfl
  have ptr : ∀ p z z', cX z = some z' → z'.ev env = some (.p p) → ∃ q, a.eval z = .pointer q ∧ q.isNone = p.isNone := by
    intro p z z' hz hp
    cases p with
    | none => exact ⟨none, (cX_sound hz hp he).ptr0_inv, rfl⟩
    | some p => obtain ⟨i, o⟩ := p; exact ⟨_, (cX_sound hz hp he).ptr_inv.1, rfl⟩
  simp only [aread] at h
  split at h
  · next p hm hn =>
    obtain ⟨q, e2, e3⟩ := ptr p y y' hy hn
    have e1 := (cX_sound hx hm he).ptr0_inv
    simp only [Option.some.injEq] at h; subst h
    rw [e1, e2, ← e3]
    exact eq_from hop (hg _ _) (equal_step _ _ _ fun dp => by rw [Op.equalIn]; simp [run_underlying hu]) (hb _ _)
  · next p hm hn =>
    obtain ⟨i, o⟩ := p
    have e1 := (cX_sound hx hm he).ptr_inv.1
    have e2 := (cX_sound hy hn he).ptr0_inv
    simp only [Option.some.injEq] at h; subst h
    rw [e1, e2]
    have := eq_from (P := P) (ι := ι) (D := D) (w := w) (neg := neg) (r := false) hop (hg (some ⟨(ι i).b, (ι i).o + o, none⟩) none) (equal_step _ _ _ fun dp => by rw [Op.equalIn]; simp [run_underlying hu]) (hb _ _)
    cases neg <;> exact this
  · next i o j u hm hn =>
    have e1 := (cX_sound hx hm he).ptr_inv.1
    have e2 := (cX_sound hy hn he).ptr_inv.1
    rw [e1, e2]
    split at h
    · next hij =>
      subst hij
      simp only [Option.some.injEq] at h; subst h
      refine eq_from hop (hg _ _) (equal_step _ _ _ fun dp => ?_) (hb _ _)
      rw [Op.equalIn]
      have hsa : (sameAddr ⟨(ι i).b, (ι i).o + o, none⟩ ⟨(ι i).b, (ι i).o + u, none⟩).run P w = .ok (o == u) w := by
        unfold sameAddr
        simp only [BEq.rfl, if_true]
        rw [Sem.run_pure]
        congr 1
        by_cases hou : o = u
        · subst hou; simp
        · have h1 : (o == u) = false := by simpa using hou
          rw [h1, beq_eq_false_iff_ne]
          intro hc
          have := congrArg Addr.off hc
          simp only at this
          omega
      simp [run_underlying hu, run_sizeOf hs, hsa]
    · next hij =>
      split at h
      · next ci cj hgi hgj =>
        simp only [Option.some.injEq] at h; subst h
        obtain ⟨c1, k1, b1⟩ := plain_block hR hgi
        obtain ⟨c2, k2, b2⟩ := plain_block hR hgj
        have hne := hR.apart i j _ _ hgi hgj rfl rfl hij
        have hsa := same_plain (P := P) (o := (ι i).o + o) (u := (ι j).o + u) b1 b2 hne
        have := eq_from (P := P) (ι := ι) (D := D) (w := w) (neg := neg) (r := false) hop (hg (some ⟨(ι i).b, (ι i).o + o, none⟩) (some ⟨(ι j).b, (ι j).o + u, none⟩))
          (equal_step _ _ _ fun dp => by rw [Op.equalIn]; simp [run_underlying hu, run_sizeOf hs, hsa]) (hb _ _)
        cases neg <;> exact this
      · cases h
  · cases h

end Ram

/- The relation kept: a new object, an object written. -/
namespace Ram
open Go
open Go.RowKit (Below Hid)

variable {P : Program} {W0 : World} {ι : Inj} {D : Nat → Prop} {N : Nat} {ds : List Deferred} {env : Env} {a : Act} {w w' : World} {H : AH}

def updI (ι : Inj) (i : Nat) (p : Pl) : Inj := fun j => if j = i then p else ι j
def addD (D : Nat → Prop) (i : Nat) : Nat → Prop := fun j => D j ∨ j = i

theorem ext_upd {i : Nat} {p : Pl} (h : ¬ D i) : Ext ι D (updI ι i p) (addD D i) := fun j hj => ⟨.inl hj, by
  unfold updI; rw [if_neg]; intro e; subst e; exact h hj⟩

theorem Rel.fresh (hR : Rel P W0 ι D H w) : ¬ D H.next := fun h => Nat.lt_irrefl _ (hR.lt _ h)

/-- The streams and the tape are as they were. -/
structure SameOut (w w' : World) : Prop where
  os : w'.os = w.os
  tape : w'.tape = w.tape
  output : w'.output = w.output
  size : w.heap.size ≤ w'.heap.size

theorem REs.ext {ι' : Inj} {D' : Nat → Prop} {es : List (V × V)} {ms : List MapEntry} {c : Nat} (he : Ext ι D ι' D') (h : REs ι D es ms c) : REs ι' D' es ms c :=
  ⟨h.keys.ext he, h.vals.ext he, h.born, h.old⟩

theorem RObj.mono {ι' : Inj} {D' : Nat → Prop} {pl : Pl} {o : AO} (he : Ext ι D ι' D') (hw : o.live = true → w'.heap[pl.b]? = w.heap[pl.b]?) (h : RObj P ι D w pl o) : RObj P ι' D' w' pl o := by
  cases o with
  | cells md cs =>
    obtain ⟨c, e, fr, h1, h2, h3, h4, h5, h6, h7⟩ := h
    exact ⟨c, e, fr, by rw [hw rfl]; exact h1, h2, h3, h4, h5.ext he, h6, h7⟩
  | map es =>
    obtain ⟨h0, ms, clock, h1, h2⟩ := h
    exact ⟨h0, ms, clock, by rw [hw rfl]; exact h1, h2.ext he⟩
  | iter l pos =>
    obtain ⟨h0, s, h1, h2⟩ := h
    exact ⟨h0, s, by rw [hw rfl]; exact h1, h2⟩
  | mbox r =>
    obtain ⟨h0, ⟨e, h1⟩, h2⟩ := h
    refine ⟨h0, ⟨e, ?_⟩, fun id hid => (he id (h2 id hid)).1⟩
    rw [hw rfl, h1]
    cases r with
    | none => rfl
    | some id => simp only [Option.map_some]; rw [(he id (h2 id rfl)).2]
  | miter r =>
    obtain ⟨h0, ⟨s, l, h1⟩, h2⟩ := h
    refine ⟨h0, ⟨s, l, ?_⟩, fun id hid => (he id (h2 id hid)).1⟩
    rw [hw rfl, h1]
    cases r with
    | none => rfl
    | some id => simp only [Option.map_some]; rw [(he id (h2 id rfl)).2]
  | bld T r n =>
    obtain ⟨h0, p, v, h1, h2, h3, h4⟩ := h
    refine ⟨h0, p, v, by rw [hw rfl]; exact h1, h2, h3, fun id hid => ?_⟩
    obtain ⟨h5, h6⟩ := h4 id hid
    rw [(he id h6).2]
    exact ⟨h5, (he id h6).1⟩
  | bbuf e l =>
    obtain ⟨h0, cur, fz, h1, h2⟩ := h
    exact ⟨h0, cur, fz, by rw [hw rfl]; exact h1, h2⟩
  | loop st pend f k env =>
    obtain ⟨h0, r, n, h1, h2, h3, h4, h5, h6⟩ := h
    exact ⟨h0, r, n, by rw [hw rfl]; exact h1, h2, h3, h4, h5, fun t v hv => let ⟨c, c1, c2⟩ := h6 t v hv; ⟨c, c1, c2.ext he⟩⟩
  | dead => trivial

theorem below_step (hR : Rel P W0 ι D H w) (hs : SameOut w w') (hb : ∀ b, b < W0.heap.size → w'.heap[b]? = w.heap[b]?) : Below W0.heap.size W0 w' :=
  hR.below.trans ⟨hs.os, hs.tape, hs.output, hs.size, hb⟩

/-- A new object, at a place where no other one is. -/
theorem rel_new {pl : Pl} {o : AO} (hR : Rel P W0 ι D H w) (hs : SameOut w w') (hkeep : ∀ j u, H.get j = some u → u.live = true → w'.heap[(ι j).b]? = w.heap[(ι j).b]?)
    (hbelow : ∀ b, b < W0.heap.size → w'.heap[b]? = w.heap[b]?) (hfree : ∀ j u, H.get j = some u → u.live = true → (ι j).b ≠ pl.b) (hnew : W0.heap.size ≤ pl.b) (hin : pl.b < w'.heap.size)
    (ho : RObj P (updI ι H.next pl) (addD D H.next) w' pl o) : Rel P W0 (updI ι H.next pl) (addD D H.next) (H.alloc o) w' := by
  have hf := hR.fresh
  have he := ext_upd (ι := ι) (p := pl) hf
  have hold : ∀ i, i ≠ H.next → updI ι H.next pl i = ι i := fun i hi => by unfold updI; rw [if_neg hi]
  have hnx : updI ι H.next pl H.next = pl := by unfold updI; rw [if_pos rfl]
  have hlt : ∀ i u, H.get i = some u → i ≠ H.next := fun i u h e => by have := hR.get_lt i u h; omega
  refine ⟨fun i u hu => ?_, fun i u hu hl => ?_, fun i hi => ?_, fun i u hu => ?_, fun i j u v hu hv h1 h2 hne => ?_, fun i u hu h1 => ?_, fun i hi => ?_, below_step hR hs hbelow⟩
  · rw [AH.get_alloc] at hu
    split at hu
    · next e => subst e; simp only [Option.some.injEq] at hu; subst hu; rw [hnx]; exact ho
    · next e => rw [hold i e]; exact RObj.mono he (fun hl => hkeep i u hu hl) (hR.objs i u hu)
  · rw [AH.get_alloc] at hu
    split at hu
    · next e => exact .inr e
    · exact .inl (hR.dom i u hu hl)
  · rw [AH.next_alloc]
    rcases hi with hi | hi
    · have := hR.lt i hi; omega
    · omega
  · rw [AH.next_alloc]
    rw [AH.get_alloc] at hu
    split at hu
    · omega
    · have := hR.get_lt i u hu; omega
  · rw [AH.get_alloc] at hu hv
    split at hu
    · next e =>
      split at hv
      · next e' => omega
      · next e' => subst e; rw [hnx, hold j e']; exact fun h => hfree j v hv h2 h.symm
    · next e =>
      split at hv
      · next e' =>
        subst e'; rw [hnx, hold i e]
        refine hfree i u hu ?_
        cases u <;> first | rfl | cases h1
      · next e' => rw [hold i e, hold j e']; exact hR.apart i j u v hu hv h1 h2 hne
  · rw [AH.get_alloc] at hu
    split at hu
    · next e => subst e; rw [hnx]; exact hnew
    · next e => rw [hold i e]; exact hR.new i u hu h1
  · rcases hi with hi | hi
    · have := hR.inw i hi
      rw [hold i (by intro e; subst e; exact hf hi)]
      exact Nat.lt_of_lt_of_le this hs.size
    · subst hi; rw [hnx]; exact hin

/-- An object written anew, in its place. -/
theorem rel_set {id : Nat} {o o' : AO} (hR : Rel P W0 ι D H w) (hg : H.get id = some o) (hown : o.owns = true) (hl' : o'.live = true → o'.owns = true) (hs : SameOut w w') (hkeep : ∀ b, b ≠ (ι id).b → w'.heap[b]? = w.heap[b]?)
    (ho : RObj P ι D w' (ι id) o') : Rel P W0 ι D (H.set id o') w' := by
  have hlive : o.live = true := by cases o <;> first | rfl | cases hown
  have hb := hR.new id o hg hown
  refine ⟨fun i u hu => ?_, fun i u hu hl => ?_, fun i hi => hR.lt i hi, fun i u hu => ?_, fun i j u v hu hv h1 h2 hne => ?_, fun i u hu h1 => ?_, fun i hi => Nat.lt_of_lt_of_le (hR.inw i hi) hs.size,
    below_step hR hs fun b hb' => hkeep b (by omega)⟩
  · rw [AH.get_set] at hu
    split at hu
    · next e => subst e; simp only [Option.some.injEq] at hu; subst hu; exact ho
    · next e => exact RObj.mono Ext.refl (fun hl => hkeep _ (fun h => hR.apart id i o u hg hu hown hl (fun e' => e e'.symm) h.symm)) (hR.objs i u hu)
  · rw [AH.get_set] at hu
    split at hu
    · next e => subst e; exact hR.dom _ _ hg hlive
    · exact hR.dom i u hu hl
  · rw [AH.get_set] at hu
    split at hu
    · next e => subst e; exact hR.get_lt _ _ hg
    · exact hR.get_lt i u hu
  · rw [AH.get_set] at hu hv
    split at hu
    · next e =>
      subst e
      split at hv
      · next e' => exact absurd e'.symm hne
      · exact hR.apart _ j o v hg hv hown h2 hne
    · next e =>
      split at hv
      · next e' => subst e'; exact hR.apart i _ u o hu hg h1 hlive hne
      · exact hR.apart i j u v hu hv h1 h2 hne
  · rw [AH.get_set] at hu
    split at hu
    · next e => subst e; exact hb
    · exact hR.new i u hu h1

theorem stp_set {id : Nat} {o o' : AO} (hg : H.get id = some o) (hown : o.owns = true) (hs : SameOut w w') (hkeep : ∀ b, b ≠ (ι id).b → w'.heap[b]? = w.heap[b]?) :
    Stp ι D H w ι D (H.set id o') w' := by
  have hl : o.live = true := by cases o <;> first | rfl | cases hown
  refine ⟨Ext.refl, fun i h => .inl h, Nat.le_refl _, fun b hb hn => hkeep b (fun e => hn ⟨id, o, hg, hown, e.symm⟩), fun b hb h => ?_, fun b hb h => ?_, hs.size, hs.os, hs.tape, hs.output⟩
  · obtain ⟨i, u, hu, h1, h2⟩ := h
    rw [AH.get_set] at hu
    split at hu
    · next e => subst e; exact ⟨_, o, hg, hown, h2⟩
    · exact ⟨i, u, hu, h1, h2⟩
  · obtain ⟨i, u, hu, h1, h2⟩ := h
    rw [AH.get_set] at hu
    split at hu
    · next e => subst e; exact ⟨_, o, hg, hl, h2⟩
    · exact ⟨i, u, hu, h1, h2⟩

theorem stp_new {pl : Pl} {o : AO} (hR : Rel P W0 ι D H w) (hs : SameOut w w') (hkeep : ∀ b, b < w.heap.size → ¬ Owned ι H b → w'.heap[b]? = w.heap[b]?) (hpl : w.heap.size ≤ pl.b ∨ Owned ι H pl.b) :
    Stp ι D H w (updI ι H.next pl) (addD D H.next) (H.alloc o) w' := by
  have hf := hR.fresh
  refine ⟨ext_upd hf, fun i h => ?_, by rw [AH.next_alloc]; omega, hkeep, fun b hb h => ?_, fun b hb h => ?_, hs.size, hs.os, hs.tape, hs.output⟩
  · rcases h with h | h
    · exact .inl h
    · exact .inr (by omega)
  · obtain ⟨i, u, hu, h1, h2⟩ := h
    rw [AH.get_alloc] at hu
    split at hu
    · next e =>
      subst e
      unfold updI at h2; rw [if_pos rfl] at h2
      subst h2
      rcases hpl with hpl | hpl
      · omega
      · exact hpl
    · next e =>
      unfold updI at h2; rw [if_neg e] at h2
      exact ⟨i, u, hu, h1, h2⟩
  · obtain ⟨i, u, hu, h1, h2⟩ := h
    rw [AH.get_alloc] at hu
    split at hu
    · next e =>
      subst e
      unfold updI at h2; rw [if_pos rfl] at h2
      subst h2
      rcases hpl with hpl | hpl
      · omega
      · obtain ⟨j, v, g1, g2, g3⟩ := hpl
        exact ⟨j, v, g1, (by cases v <;> first | rfl | cases g2), g3⟩
    · next e =>
      unfold updI at h2; rw [if_neg e] at h2
      exact ⟨i, u, hu, h1, h2⟩

/-- A new object in a new block. -/
theorem rel_alloc {o : AO} {O : Obj} {n : Nat} (hR : Rel P W0 ι D H w) (hs : SameOut w w') (hh : w'.heap = w.heap.push O)
    (ho : RObj P (updI ι H.next ⟨w.heap.size, 0, n⟩) (addD D H.next) w' ⟨w.heap.size, 0, n⟩ o) :
    Rel P W0 (updI ι H.next ⟨w.heap.size, 0, n⟩) (addD D H.next) (H.alloc o) w' ∧ Stp ι D H w (updI ι H.next ⟨w.heap.size, 0, n⟩) (addD D H.next) (H.alloc o) w' := by
  have hold : ∀ b, b < w.heap.size → w'.heap[b]? = w.heap[b]? := fun b hb => by rw [hh, Array.getElem?_push_lt hb]; simp [hb]
  have hlt : ∀ j u, H.get j = some u → u.live = true → (ι j).b < w.heap.size := fun j u hu hl => hR.inw j (hR.dom j u hu hl)
  refine ⟨rel_new hR hs (fun j u hu hl => hold _ (hlt j u hu hl)) (fun b hb => hold b (Nat.lt_of_lt_of_le hb hR.below.size)) (fun j u hu hl => ?_) hR.below.size (by simp [hh]) ho,
    stp_new hR hs (fun b hb _ => hold b hb) (.inl (Nat.le_refl _))⟩
  have := hlt j u hu hl
  simp only; omega

end Ram

/- What is made of memory. -/
namespace Ram
open Go
open Go.RowKit (Below Hid)

variable {P : Program} {W0 : World} {ι : Inj} {D : Nat → Prop} {N : Nat} {ds : List Deferred} {env : Env} {a : Act} {w w' : World} {H : AH}

/-- It makes an object in a new block; whatever number it is to have. -/
def Mks (P : Program) (ι : Inj) (D : Nat → Prop) (s : Sem Value) (w : World) (obj : AO) (mk : Nat → V) : Prop :=
  ∃ c w' O n, s.run P w = .ok c w' ∧ SameOut w w' ∧ w'.heap = w.heap.push O ∧
    ∀ id, ¬ D id → RObj P (updI ι id ⟨w.heap.size, 0, n⟩) (addD D id) w' ⟨w.heap.size, 0, n⟩ obj ∧ RV (updI ι id ⟨w.heap.size, 0, n⟩) (addD D id) (mk id) c

theorem sameOut_push (w : World) (O : Obj) : SameOut w { w with heap := w.heap.push O } := ⟨rfl, rfl, rfl, by simp⟩

theorem robj_cells {id : Nat} {cs : List V} {ds : Array Value} {e : TypeId} {md : Md} {fr : Nat × Nat} {n : Nat} (hb : w'.heap[w.heap.size]? = some (.cells ds e fr)) (hn : ds.size = n) (hle : cs.length ≤ n) (h1 : ∀ v ∈ cs, v.one = true)
    (hr : RVs ι D cs (ds.toList.take cs.length)) (hid : ¬ D id) (hp : md = .rw → fr = (0, 0)) (hq : md = .rws → ∀ k, k < ds.size → ¬ (fr.1 ≤ k ∧ k < fr.2)) :
    RObj P (updI ι id ⟨w.heap.size, 0, n⟩) (addD D id) w' ⟨w.heap.size, 0, n⟩ (.cells md cs) :=
  ⟨ds, e, fr, hb, hn, by simpa using hle, h1, by simpa using hr.ext (ext_upd hid), hp, hq⟩

theorem rv_new {id b n : Nat} : RV (updI ι id ⟨b, 0, n⟩) (addD D id) (.p (some (id, 0))) (.pointer (some ⟨b, 0, none⟩)) := by
  have := RV.p (ι := updI ι id ⟨b, 0, n⟩) (D := addD D id) id 0 (.inr rfl)
  simpa [updI] using this

theorem heap_new (w : World) (O : Obj) : ({ w with heap := w.heap.push O } : World).heap[w.heap.size]? = some O := by simp

theorem mk_box {e : TypeId} {x : Operand} {x' : X} {obj : AO} {mk : Nat → V} (hx : cX x = some x') (h : aalloc (.box x') env = some (obj, mk)) (he : REnv ds ι D N env a) : Mks P ι D (Instr.box e (a.eval x)) w obj mk := by
  simp only [aalloc] at h
  split at h
  · next v hv =>
    split at h
    · next h1 =>
      simp only [Option.some.injEq, Prod.mk.injEq] at h
      obtain ⟨rfl, rfl⟩ := h
      have r := (cX_sound hx hv he).cells
      have hl := r.length
      refine ⟨_, _, .cells (a.eval x).cells e (0, 0), (a.eval x).cells.size, by simp only [Instr.box, newVar, newRow, Sem.run_bind, run_newObj, Result.andThen_ok, Sem.run_pure], sameOut_push _ _, rfl, fun id hid => ⟨?_, rv_new⟩⟩
      exact robj_cells (heap_new w _) rfl (by simpa using Nat.le_of_eq hl) (by simpa using h1) (by rw [hl, List.take_length]; exact r) hid (fun _ => rfl) (fun h => by cases h)
    · cases h
  · cases h

theorem mk_newz {t : TypeId} {zs : List V} {obj : AO} {mk : Nat → V} (hz : zeroT P t = some zs) (h1 : zs.all V.one = true) (h : aalloc (.newz zs) env = some (obj, mk)) : Mks P ι D (Instr.alloc t true (.tuple #[])) w obj mk := by
  simp only [aalloc, Option.some.injEq, Prod.mk.injEq] at h
  obtain ⟨rfl, rfl⟩ := h
  obtain ⟨z, hz1, hz2, _⟩ := run_zeroValue (ι := ι) (D := D) hz w
  have hl := hz2.length
  refine ⟨_, _, .cells z.cells t (0, 0), z.cells.size, by simp only [Instr.alloc, newVar, newRow, Sem.run_bind, hz1, run_newObj, Result.andThen_ok, Sem.run_pure], sameOut_push _ _, rfl, fun id hid => ⟨?_, rv_new⟩⟩
  exact robj_cells (heap_new w _) rfl (by simpa using Nat.le_of_eq hl) (by simpa using h1) (by rw [hl, List.take_length]; exact hz2) hid (fun _ => rfl) (fun h => by cases h)

theorem mk_newb {t : TypeId} {zs : List V} {obj : AO} {mk : Nat → V} (hz : zeroT P t = some zs) (h1 : isBldZ zs = true) (h : aalloc (.newb t) env = some (obj, mk)) : Mks P ι D (Instr.alloc t true (.tuple #[])) w obj mk := by
  simp only [aalloc, Option.some.injEq, Prod.mk.injEq] at h
  obtain ⟨rfl, rfl⟩ := h
  obtain ⟨z, hz1, hz2, _⟩ := run_zeroValue (ι := ι) (D := D) hz w
  unfold isBldZ at h1
  split at h1
  · have hc : z.cells = #[.pointer none, .slice none 0 0] := by
      cases hz2' : z.cells with
      | mk l =>
        rw [hz2'] at hz2
        cases hz2 with
        | cons _ _ _ _ r1 r2 => cases r2 with
          | cons _ _ _ _ r3 r4 => cases r4; cases r1; cases r3; rfl
    refine ⟨_, _, .cells #[.pointer none, .slice none 0 0] t (0, 0), 2, by simp only [Instr.alloc, newVar, newRow, Sem.run_bind, hz1, hc, run_newObj, Result.andThen_ok, Sem.run_pure], sameOut_push _ _, rfl, fun id hid => ⟨?_, rv_new⟩⟩
    exact ⟨rfl, _, _, heap_new w _, .inl rfl, fun _ => ⟨rfl, rfl⟩, fun _ h => by cases h⟩
  · cases h1

theorem rv_newsl {id b n es len cap : Nat} (h1 : len ≤ cap) (h2 : cap ≤ maxLen) (h3 : cap * es ≤ n) : RV (updI ι id ⟨b, 0, n⟩) (addD D id) (.sl es (some (id, 0)) len len) (.slice (some ⟨b, 0, none⟩) len cap) := by
  have := RV.sl (ι := updI ι id ⟨b, 0, n⟩) (D := addD D id) es id 0 ⟨b, 0, none⟩ len len cap (.inr rfl) h1 h1 h2 (.inr ⟨by simp [updI], by simpa [updI] using h3⟩)
  simpa [updI] using this
theorem rv_newsl' {id b n es len cap : Nat} (h1 : len ≤ cap) (h2 : cap ≤ maxLen) (h3 : cap * es ≤ n) : RV (updI ι id ⟨b, 0, n⟩) (addD D id) (.sl es (some (id, 0)) len cap) (.slice (some ⟨b, 0, none⟩) len cap) := by
  have := RV.sl (ι := updI ι id ⟨b, 0, n⟩) (D := addD D id) es id 0 ⟨b, 0, none⟩ len cap cap (.inr rfl) h1 (Nat.le_refl _) h2 (.inr ⟨by simp [updI], by simpa [updI] using h3⟩)
  simpa [updI] using this

/-- So many zero values, one behind the other. -/
theorem flat_get {zs : List V} {s : Nat} (hz : zs.length = s) (hs : 0 < s) : ∀ (n j : Nat), j < n * s → (List.replicate n zs).flatten[j]? = zs[j % s]?
  | 0, j, h => by omega
  | n + 1, j, h => by
    rw [List.replicate_succ, List.flatten_cons]
    by_cases hj : j < s
    · rw [List.getElem?_append_left (by omega), Nat.mod_eq_of_lt hj]
    · rw [List.getElem?_append_right (by omega), hz]
      have hm : n * s + s = (n + 1) * s := by rw [Nat.add_mul]; omega
      have hj2 : j % s = (j - s) % s := Nat.mod_eq_sub_mod (by omega)
      rw [flat_get hz hs n (j - s) (by omega), hj2]

theorem zeros_rel {z : Value} {zs : List V} {s n : Nat} (hr : RVs ι D zs z.cells.toList) (hz : zs.length = s) (hs : 0 < s) : RVs ι D ((List.replicate n zs).flatten) (((Array.range (n * s)).map (z.cells[· % z.cells.size]!)).toList) := by
  have hl := hr.length
  have hsz : z.cells.size = s := by simpa [hz] using hl.symm
  refine RVs.of_get (by simp [hz]) fun j v hj => ?_
  have hlt : j < n * s := by
    have := (List.getElem?_eq_some_iff.1 hj).1
    simpa [hz] using this
  rw [flat_get hz hs n j hlt] at hj
  obtain ⟨c, h1, h2⟩ := hr.get _ _ hj
  refine ⟨c, ?_, h2⟩
  have hc : z.cells[j % s]? = some c := by simpa using h1
  simp [hlt, hsz, hc, getElem!_def]

theorem one_flat {zs : List V} {n : Nat} (h : zs.all V.one = true) : ∀ v ∈ (List.replicate n zs).flatten, v.one = true := by
  intro v hv
  obtain ⟨l, h1, h2⟩ := List.mem_flatten.1 hv
  rw [(List.mem_replicate.1 h1).2] at h2
  exact List.all_eq_true.1 h v h2

theorem mk_mkslice {t e s b : Nat} {zs : List V} {l c : Operand} {l' c' : X} {obj : AO} {mk : Nat → V} (hu : P.underlying t = some (.slice e)) (hs : sizeT P e = some (s + 1)) (hb : bytesT P e = some b) (hz : zeroT P e = some zs) (hzl : zs.length = s + 1)
    (h1 : zs.all V.one = true) (hl : cX l = some l') (hc : cX c = some c') (h : aalloc (.mkslice (s + 1) b zs l' c') env = some (obj, mk)) (he : REnv ds ι D N env a) : Mks P ι D (Instr.makeSlice t (a.eval l) (a.eval c)) w obj mk := by
  simp only [aalloc] at h
  split at h
  · next m n hm hn =>
    split at h
    · next hcond =>
      simp only [Option.some.injEq, Prod.mk.injEq] at h
      obtain ⟨rfl, rfl⟩ := h
      obtain ⟨c1, c2, c3, c4⟩ := hcond
      have e1 := (cX_sound hl hm he).int_inv
      have e2 := (cX_sound hc hn he).int_inv
      obtain ⟨z, _, hz2, hz3⟩ := run_zeroValue (ι := ι) (D := D) hz w
      cases hi : P.info? e with
      | none => simp [sizeT, hi] at hs
      | some i =>
        simp [hi] at hz3
        simp [sizeT, hi] at hs
        simp [bytesT, hi] at hb
        have hrun := run_make (P := P) w t e i z hu hi hz3 .i64 .i64 m n c1 c2 (by rw [hb, Int.mul_comm]; omega) c4
        have hrel := zeros_rel (n := n.toNat) hz2 hzl (Nat.succ_pos s)
        have hlen := hrel.length
        refine ⟨_, _, .cells (madeCells z.cells (n.toNat * i.size)) e (0, 0), n.toNat * (s + 1), by rw [e1, e2]; exact hrun, sameOut_push _ _, rfl, fun id hid => ⟨?_, ?_⟩⟩
        · have hml : ((List.replicate n.toNat zs).flatten).length = n.toNat * (s + 1) := by simp [hzl]
          refine robj_cells (heap_new w _) (by rw [size_madeCells, hs]) (by omega) (one_flat h1) ?_ hid (fun _ => rfl) (fun h => by cases h)
          rw [hml, hs]
          have : (madeCells z.cells (n.toNat * (s + 1))).toList.take (n.toNat * (s + 1)) = (madeCells z.cells (n.toNat * (s + 1))).toList := List.take_of_length_le (by simp [size_madeCells])
          rw [this]
          exact hrel
        · exact rv_newsl' (by omega) (by unfold maxLen; omega) (Nat.le_refl _)
    · cases h
  · cases h

theorem mk_bslice {t e s len : Nat} {zs : List V} {ps : Array (Nat × Operand)} {parts : List (Nat × Nat × X)} {obj : AO} {mk : Nat → V} (hu : P.underlying t = some (.slice e)) (hs : sizeT P e = some (s + 1)) (hz : zeroT P e = some zs) (hzl : zs.length = s + 1)
    (hsz : len * (s + 1) ≤ 2 ^ 24) (hml : len ≤ maxLen) (hp : partsA (s + 1) ps.toList = some parts) (h : aalloc (.bslice (s + 1) len ((List.replicate len zs).flatten) parts) env = some (obj, mk)) (he : REnv ds ι D N env a) :
    Mks P ι D (Instr.buildSlice t len (ps.map fun (i, x) => (i, a.eval x))) w obj mk := by
  simp only [aalloc] at h
  split at h
  · next cs hcs =>
    split at h
    · next h1 =>
      simp only [Option.some.injEq, Prod.mk.injEq] at h
      obtain ⟨rfl, rfl⟩ := h
      obtain ⟨z, hz1, hz2, _⟩ := run_zeroValue (ι := ι) (D := D) hz w
      have hrel := zeros_rel (n := len) hz2 hzl (Nat.succ_pos s)
      obtain ⟨e1, e2⟩ := partsA_get hp
      obtain ⟨ds, f1, f2⟩ := fill_sound he (fun i => some (i * (s + 1), s + 1)) e1 e2 hcs hrel
      have hlen : cs.length = len * (s + 1) := by
        have key : ∀ (parts : List (Nat × Nat × X)) (vs us : List V), fillV env vs parts = some us → us.length = vs.length := by
          intro parts
          induction parts with
          | nil => intro vs us h; simp only [fillV, Option.some.injEq] at h; rw [h]
          | cons p parts ih =>
            intro vs us h
            obtain ⟨off, size, x⟩ := p
            unfold fillV at h
            split at h
            · next v hv =>
              split at h
              · next hc =>
                have := ih _ _ h
                rw [this]
                simp only [splice, List.length_append, List.length_take, List.length_drop]
                omega
              · cases h
            · cases h
        rw [key _ _ _ hcs]; simp [hzl]
      have hdl := f2.length
      simp only [Array.length_toList] at hdl
      have hrun : (Instr.buildSlice t len (ps.map fun (i, x) => (i, a.eval x))).run P w = .ok (.slice (some ⟨w.heap.size, 0, none⟩) len len) { w with heap := w.heap.push (.cells ds e (0, 0)) } := by
        unfold Instr.buildSlice
        simp only [Sem.run_bind, run_underlying hu, Result.andThen_ok, run_sizeOf hs]
        rw [if_neg (by omega)]
        have hmp := map_pairs (a := a) ps
        by_cases h0 : len * (s + 1) = 0
        · have hl0 : len = 0 := by
            rcases Nat.mul_eq_zero.1 h0 with h | h
            · exact h
            · omega
          subst hl0
          rw [if_pos h0]
          have f1' := f1
          rw [Nat.zero_mul] at f1' ⊢
          simp only [Sem.run_bind, Sem.run_pure, Result.andThen_ok, hmp]
          have hr0 : ∀ (zc : Array Value), (Array.range 0).map (fun x => zc[x % zc.size]!) = #[] := by intro zc; simp
          rw [hr0] at f1' ⊢
          rw [f1']
          simp only [newRow, Sem.run_bind, run_newObj, Result.andThen_ok, Sem.run_pure]
        · simp only [if_neg h0, Sem.run_bind, hz1, Result.andThen_ok, Sem.run_pure, hmp]
          rw [f1]
          simp only [newRow, Sem.run_bind, run_newObj, Result.andThen_ok, Sem.run_pure]
      refine ⟨_, _, .cells ds e (0, 0), len * (s + 1), hrun, sameOut_push _ _, rfl, fun id hid => ⟨?_, rv_newsl (Nat.le_refl _) hml (Nat.le_refl _)⟩⟩
      refine robj_cells (heap_new w _) (by omega) (by omega) (by simpa using h1) ?_ hid (fun _ => rfl) (fun h => by cases h)
      rw [List.take_of_length_le (by simp; omega)]
      exact f2
    · cases h
  · cases h

theorem mk_mkmap {t : TypeId} {obj : AO} {mk : Nat → V} (h : aalloc .mkmap env = some (obj, mk)) : Mks P ι D (Instr.makeMap t none) w obj mk := by
  simp only [aalloc, Option.some.injEq, Prod.mk.injEq] at h
  obtain ⟨rfl, rfl⟩ := h
  refine ⟨_, _, .map #[] 0, 0, rfl, sameOut_push _ _, rfl, fun id hid => ⟨⟨rfl, #[], 0, heap_new w _, .nil, .nil, .nil, by simp⟩, ?_⟩⟩
  have := RV.m (ι := updI ι id ⟨w.heap.size, 0, 0⟩) (D := addD D id) id (.inr rfl)
  simpa [updI] using this

theorem mk_rangeS {t : TypeId} {x : Operand} {x' : X} {obj : AO} {mk : Nat → V} (hu : P.underlying t = some .string) (hx : cX x = some x') (h : aalloc (.rangeS x') env = some (obj, mk)) (he : REnv ds ι D N env a) : Mks P ι D (Instr.range t (a.eval x)) w obj mk := by
  simp only [aalloc] at h
  split at h
  · next l hv =>
    simp only [Option.some.injEq, Prod.mk.injEq] at h
    obtain ⟨rfl, rfl⟩ := h
    have e := (cX_sound hx hv he).str_inv
    refine ⟨.pointer (some ⟨w.heap.size, 0, none⟩), _, .stringIter ⟨l.toArray⟩ 0, 0, ?_, sameOut_push _ _, rfl, fun id hid => ⟨⟨rfl, _, heap_new w _, by simp⟩, rv_new⟩⟩
    unfold Instr.range
    simp only [Sem.run_bind, run_underlying hu, Result.andThen_ok, e, Sem.run_pure, run_newObj]
  · cases h

theorem mk_s2b {src dst e : TypeId} {x : Operand} {x' : X} {obj : AO} {mk : Nat → V} (hs : P.underlying src = some .string) (hd : P.underlying dst = some (.slice e)) (he8 : P.underlying e = some (.int .u8)) (hx : cX x = some x')
    (h : aalloc (.s2b x') env = some (obj, mk)) (he : REnv ds ι D N env a) : Mks P ι D (convert src dst (a.eval x)) w obj mk := by
  simp only [aalloc] at h
  split at h
  · next l hv =>
    split at h
    · next hlen =>
      simp only [Option.some.injEq, Prod.mk.injEq] at h
      obtain ⟨rfl, rfl⟩ := h
      have e1 := (cX_sound hx hv he).str_inv
      have hsz : (⟨l.toArray⟩ : ByteArray).size = l.length := by simp [ByteArray.size]
      have hrun := run_bytes_of_string (P := P) w src dst e ⟨l.toArray⟩ hs hd he8
      rw [hsz] at hrun
      have hcap := grownCap_ge w l.length 0 e
      have hcm := grownCap_le_maxLen w l.length 0 e (by unfold maxLen; omega)
      generalize hC : grownCap w l.length 0 e = C at *
      have hbs : (bytesRow ⟨l.toArray⟩ C).size = C := by simp [bytesRow, hsz]; omega
      refine ⟨_, w.drew.alloc (.cells (bytesRow ⟨l.toArray⟩ C) e ((bytesRow ⟨l.toArray⟩ C).size, (bytesRow ⟨l.toArray⟩ C).size + 1)), .cells (bytesRow ⟨l.toArray⟩ C) e ((bytesRow ⟨l.toArray⟩ C).size, (bytesRow ⟨l.toArray⟩ C).size + 1), C, by rw [e1]; exact hrun, ⟨rfl, rfl, rfl, ?_⟩, rfl, fun id hid => ⟨?_, rv_newsl hcap hcm (by omega)⟩⟩
      · show w.heap.size ≤ (w.heap.push _).size
        simp
      · refine robj_cells (w := w) (e := e) (fr := ((bytesRow ⟨l.toArray⟩ C).size, (bytesRow ⟨l.toArray⟩ C).size + 1)) (ds := bytesRow ⟨l.toArray⟩ C) (by show (w.heap.push _)[w.heap.size]? = _; simp) hbs (by simpa using hcap) (by simp [V.one]) ?_ hid (fun h => by cases h) (fun _ k hk => by omega)
        have hrow : (bytesRow ⟨l.toArray⟩ C).toList = (l.map fun (b : UInt8) => Value.int .u8 b.toNat) ++ List.replicate (C - l.length) (.int .u8 0) := by
          unfold bytesRow; simp [hsz]
        rw [hrow, List.take_append_of_le_length (by simp), List.take_of_length_le (by simp)]
        refine RVs.of_get (by simp) fun j v hj => ?_
        simp only [List.getElem?_map, Option.map_eq_some_iff] at hj
        obtain ⟨c, h1, rfl⟩ := hj
        exact ⟨_, by simp [h1], RV.i _ _⟩
    · cases h
  · cases h

end Ram

/- What is written to memory: rows. -/
namespace Ram
open Go
open Go.RowKit (Below Hid)

variable {P : Program} {W0 : World} {ι : Inj} {D : Nat → Prop} {N : Nat} {ds : List Deferred} {env : Env} {a : Act} {w w' : World} {H : AH}

def setBlk (w : World) (b : Nat) (O : Obj) : World := { w with heap := w.heap.setIfInBounds b O }

theorem setBlk_same {b : Nat} {O O' : Obj} (h : w.heap[b]? = some O') : (setBlk w b O).heap[b]? = some O := by
  have hb := (Array.getElem?_eq_some_iff.1 h).1
  simp [setBlk, hb]
theorem setBlk_other {b k : Nat} {O : Obj} (h : k ≠ b) : (setBlk w b O).heap[k]? = w.heap[k]? := by
  simp only [setBlk]
  exact Array.getElem?_setIfInBounds_ne (fun e => h e.symm)
theorem setBlk_out (w : World) (b : Nat) (O : Obj) : SameOut w (setBlk w b O) := ⟨rfl, rfl, rfl, by simp [setBlk]⟩
theorem setBlk_twice (w : World) (b : Nat) (O O' : Obj) : setBlk (setBlk w b O) b O' = setBlk w b O' := by
  simp [setBlk]

theorem modify_set {α : Type} (xs : Array α) (b : Nat) (f : α → α) (x : α) (h : xs[b]? = some x) : xs.modify b f = xs.setIfInBounds b (f x) := by
  apply Array.ext_getElem?
  intro i
  obtain ⟨hb, hx⟩ := Array.getElem?_eq_some_iff.1 h
  by_cases e : b = i
  · subst e
    simp [hb, Array.getElem_modify, hx]
  · simp [Array.getElem?_modify, e, Array.getElem?_setIfInBounds_ne e]

theorem setCell_blk {b o : Nat} {c : Array Value} {e : TypeId} {fr : Nat × Nat} (v : Value) (h : w.heap[b]? = some (.cells c e fr)) : w.setCell ⟨b, o, none⟩ v = setBlk w b (.cells (c.setIfInBounds o v) e fr) := by
  unfold World.setCell setBlk
  congr 1
  rw [modify_set _ _ _ _ h]
  simp

theorem run_store1 {b o : Nat} {c : Array Value} {e : TypeId} {fr : Nat × Nat} {v : Value} (h : w.heap[b]? = some (.cells c e fr)) (ho : o < c.size) (hf : ¬ (fr.1 ≤ o ∧ o < fr.2)) (h1 : v.oneCell' = true) :
    (store ⟨b, o, none⟩ v).run P w = .ok () (setBlk w b (.cells (c.setIfInBounds o v) e fr)) := by
  rw [run_store P w _ v _ h1]
  have hc : w.cell? ⟨b, o, none⟩ = some c[o] := by simp [World.cell?, h, ho]
  have hz : w.frozen? ⟨b, o, none⟩ = false := by
    simp only [World.frozen?, h]
    obtain ⟨lo, hi⟩ := fr
    simp only [Bool.and_eq_false_iff, decide_eq_false_iff_not]
    simp only at hf
    omega
  rw [hc]
  simp only [hz, Bool.false_eq_true, if_false, setCell_blk v h]

theorem run_storeRow {b o : Nat} {e : TypeId} {fr : Nat × Nat} : ∀ (vs : List Value) (i : Nat) (c : Array Value) (w : World), w.heap[b]? = some (.cells c e fr) → o + i + vs.length ≤ c.size → (∀ v ∈ vs, v.oneCell' = true) →
    (∀ k, k < c.size → ¬ (fr.1 ≤ k ∧ k < fr.2)) → ∃ c' : Array Value, (storeCells ⟨b, o, none⟩ vs i).run P w = .ok () (setBlk w b (.cells c' e fr)) ∧ c'.toList = c.toList.take (o + i) ++ vs ++ c.toList.drop (o + i + vs.length)
  | [], i, c, w, h, hl, h1, hf => by
    refine ⟨c, ?_, by simp⟩
    simp only [storeCells, Sem.run_pure]
    congr 1
    unfold setBlk
    have hb := (Array.getElem?_eq_some_iff.1 h)
    obtain ⟨hb1, hb2⟩ := hb
    cases w with
    | mk heap tape drawn os output =>
      simp only at hb1 hb2 ⊢
      congr 1
      apply Array.ext_getElem?
      intro j
      by_cases e : b = j
      · subst e; simp [hb1, hb2]
      · simp [Array.getElem?_setIfInBounds_ne e]
  | v :: vs, i, c, w, h, hl, h1, hf => by
    simp only [List.length_cons] at hl
    have hs := run_store1 (P := P) (w := w) (v := v) h (show o + i < c.size by omega) (hf _ (by omega)) (h1 v (by simp))
    obtain ⟨c', g1, g2⟩ := run_storeRow (b := b) (o := o) vs (i + 1) (c.setIfInBounds (o + i) v) (setBlk w b (.cells (c.setIfInBounds (o + i) v) e fr)) (setBlk_same h) (by simp; omega) (fun u hu => h1 u (by simp [hu])) (by simpa using hf)
    refine ⟨c', ?_, ?_⟩
    · rw [setBlk_twice] at g1
      simp only [storeCells, Sem.run_bind, Addr_add, hs, Result.andThen_ok, g1]
    · rw [g2]
      simp only [Array.toList_setIfInBounds, List.length_cons]
      have e1 : (c.toList.set (o + i) v).take (o + (i + 1)) = c.toList.take (o + i) ++ [v] := by
        rw [show o + (i + 1) = o + i + 1 by omega, List.take_add_one, List.take_set_of_le (by omega)]
        have : o + i < c.size := by omega
        simp [this]
      have e2 : (c.toList.set (o + i) v).drop (o + (i + 1) + vs.length) = c.toList.drop (o + i + (vs.length + 1)) := by
        rw [List.drop_set_of_lt (by omega)]
        congr 1; omega
      rw [e1, e2]; simp

theorem drop_splice (L ds : List Value) (p o n : Nat) (h : o + ds.length ≤ n) (hn : p + n ≤ L.length) :
    ((L.take (p + o) ++ ds ++ L.drop (p + o + ds.length)).drop p).take n = ((L.drop p).take n).take o ++ ds ++ ((L.drop p).take n).drop (o + ds.length) := by
  have e0 : L.take (p + o) = L.take p ++ (L.drop p).take o := by rw [List.take_add]
  rw [e0, List.append_assoc, List.append_assoc, List.drop_append]
  have hp : (L.take p).length = p := by simp; omega
  rw [hp, Nat.sub_self, List.drop_of_length_le (by omega), List.nil_append, List.drop_zero, ← List.append_assoc]
  rw [List.take_append]
  have hl : ((L.drop p).take o ++ ds).length = o + ds.length := by simp; omega
  rw [hl, List.take_of_length_le (by omega), List.take_take, Nat.min_eq_left (by omega)]
  congr 1
  rw [List.drop_take, List.drop_drop]
  congr 2
  omega

theorem robj_written {id o : Nat} {md : Md} {cs vs : List V} {ds : List Value} {c c' : Array Value} {e : TypeId} {fr : Nat × Nat} (hb : w'.heap[(ι id).b]? = some (.cells c' e fr)) (hc : c.size = (ι id).n) (hle : (ι id).o + cs.length ≤ (ι id).n)
    (h1 : ∀ v ∈ cs, v.one = true) (hr : RVs ι D cs ((c.toList.drop (ι id).o).take cs.length)) (hp : md = .rw → fr = (0, 0)) (hq : md = .rws → ∀ k, k < c.size → ¬ (fr.1 ≤ k ∧ k < fr.2))
    (hc' : c'.toList = c.toList.take ((ι id).o + o) ++ ds ++ c.toList.drop ((ι id).o + o + ds.length)) (hv : RVs ι D vs ds) (hv1 : ∀ v ∈ vs, v.one = true) (hfit : o + vs.length ≤ cs.length) :
    RObj P ι D w' (ι id) (.cells md (splice cs o vs)) := by
  have hl := hv.length
  have hsl : (splice cs o vs).length = cs.length := by simp only [splice, List.length_append, List.length_take, List.length_drop]; omega
  have hcl : c'.size = c.size := by
    have := congrArg List.length hc'
    simp only [Array.length_toList, List.length_append, List.length_take, List.length_drop] at this
    omega
  refine ⟨c', e, fr, hb, by omega, by omega, ?_, ?_, hp, fun hm k hk => hq hm k (by omega)⟩
  · intro v hmem
    simp only [splice, List.mem_append] at hmem
    rcases hmem with (hmem | hmem) | hmem
    · exact h1 v (List.mem_of_mem_take hmem)
    · exact hv1 v hmem
    · exact h1 v (List.mem_of_mem_drop hmem)
  · rw [hsl, hc', drop_splice _ _ _ _ _ (by omega) (by simp; omega)]
    exact hr.splice o hv

/-- An operation that writes: what it hands back, the world behind it, and that all is as it must be. -/
def Act1 (P : Program) (W0 : World) (ι : Inj) (D : Nat → Prop) (H : AH) (s : Sem Value) (w : World) (v : V) (H' : AH) : Prop :=
  ∃ c w' ι' D', s.run P w = .ok c w' ∧ RV ι' D' v c ∧ Rel P W0 ι' D' H' w' ∧ Stp ι D H w ι' D' H' w'

theorem st_sound (hR : Rel P W0 ι D H w) {t n : Nat} {x y : Operand} {x' y' : X} {v : V} {H' : AH} (hs : sizeT P t = some n) (hx : cX x = some x') (hy : cX y = some y') (h : aact (.st n x' y') env H = some (v, H')) (he : REnv ds ι D N env a) :
    ∃ w', (Instr.storeAt t (a.eval x) (a.eval y)).run P w = .ok () w' ∧ v = .tup [] ∧ Rel P W0 ι D H' w' ∧ Stp ι D H w ι D H' w' := by
  simp only [aact] at h
  split at h
  · next id o u hv hu =>
    split at h
    · next md cs hg =>
      split at h
      · next hc =>
        simp only [Option.some.injEq, Prod.mk.injEq] at h
        obtain ⟨rfl, rfl⟩ := h
        obtain ⟨c1, c2, c3, c4⟩ := hc
        obtain ⟨e1, hd⟩ := (cX_sound hx hv he).ptr_inv
        have ru := (cX_sound hy hu he).cells
        have hl := ru.length
        obtain ⟨c, e, fr, g1, g2, g3, g4, g5, g6, g7⟩ := hR.objs _ _ hg
        have hfr : ∀ k, k < c.size → ¬ (fr.1 ≤ k ∧ k < fr.2) := by
          cases md with
          | ro => exact absurd rfl c1
          | rw => intro k hk; rw [g6 rfl]; simp
          | rws => exact g7 rfl
        have h1c : ∀ v ∈ (a.eval y).cells.toList, v.oneCell' = true := ru.one (fun v hv => List.all_eq_true.1 c3 v hv)
        simp only [Array.length_toList] at hl
        obtain ⟨c', f1, f2⟩ := run_storeRow (P := P) (o := (ι id).o + o) (a.eval y).cells.toList 0 c w g1 (by simp; omega) h1c hfr
        have hown : (AO.cells md cs).owns = true := by cases md <;> first | rfl | exact absurd rfl c1
        refine ⟨setBlk w (ι id).b (.cells c' e fr), ?_, rfl, ?_, stp_set hg hown (setBlk_out _ _ _) (fun b hb => setBlk_other hb)⟩
        · unfold Instr.storeAt storeVar
          simp only [e1, Instr.sureAddr, Sem.run_bind, Sem.run_pure, Result.andThen_ok, run_sizeOf hs]
          rw [if_neg (by omega)]
          exact f1
        · refine rel_set hR hg hown (by intro; cases md <;> first | rfl | exact absurd rfl c1) (setBlk_out _ _ _) (fun b hb => setBlk_other hb) ?_
          exact robj_written (setBlk_same g1) g2 g3 g4 g5 g6 g7 (by simpa using f2) ru (fun v hv => List.all_eq_true.1 c3 v hv) (by omega)
      · cases h
    · cases h
  · cases h

end Ram

/- What is written to memory: maps. -/
namespace Ram
open Go
open Go.RowKit (Below Hid)

variable {P : Program} {W0 : World} {ι : Inj} {D : Nat → Prop} {N : Nat} {ds : List Deferred} {env : Env} {a : Act} {w w' : World} {H : AH}

theorem run_setObj {r : Nat} {o O : Obj} (h : w.heap[r]? = some o) (hn : ∀ c e f, o ≠ .cells c e f) : (setObj r O).run P w = .ok () (setBlk w r O) := by
  cases o <;> first | (simp only [setObj, Sem.run, h]; rfl) | exact absurd rfl (hn _ _ _)

theorem RVs.set {vs : List V} {cs : List Value} (h : RVs ι D vs cs) (i : Nat) {v : V} {c : Value} (hv : RV ι D v c) : RVs ι D (vs.set i v) (cs.set i c) := by
  induction vs generalizing cs i with
  | nil => cases h; simp; exact .nil
  | cons x vs ih =>
    cases h with
    | cons _ y _ ys a b =>
      cases i with
      | zero => exact .cons _ _ _ _ hv b
      | succ i => exact .cons _ _ _ _ a (ih b i)

theorem RVs.eraseIdx {vs : List V} {cs : List Value} (h : RVs ι D vs cs) (i : Nat) : RVs ι D (vs.eraseIdx i) (cs.eraseIdx i) := by
  induction vs generalizing cs i with
  | nil => cases h; simp; exact .nil
  | cons x vs ih =>
    cases h with
    | cons _ y _ ys a b =>
      cases i with
      | zero => exact b
      | succ i => exact .cons _ _ _ _ a (ih b i)

theorem map_erase {α β : Type} (f : α → β) : ∀ (l : List α) (i : Nat), (l.eraseIdx i).map f = (l.map f).eraseIdx i
  | [], _ => rfl
  | _ :: _, 0 => rfl
  | x :: l, i + 1 => by simp [map_erase f l i]

theorem sameCell_eq {kk : KK} {k k' : V} (h : sameCell kk k k' = some true) : k = k' := by
  unfold sameCell at h
  split at h
  · split at h
    · next hk => subst hk; simp at h; rw [h]
    · cases h
  · simp at h; rw [h]
  · simp at h; rw [h]
  · cases h

theorem sameAt_eq {xs ys : List V} : ∀ {l : List (Nat × KK)}, sameAt l xs ys = some true → ∀ o ∈ l.map (·.1), xs[o]? = ys[o]?
  | [], _, o, ho => by cases ho
  | (p, kk) :: l, h, o, ho => by
    unfold sameAt at h
    split at h
    · next x y e1 e2 =>
      split at h
      · next hs =>
        simp only [List.map_cons, List.mem_cons] at ho
        rcases ho with rfl | ho
        · rw [e1, e2, sameCell_eq hs]
        · exact sameAt_eq h o ho
      · cases h
      · cases h
    · cases h

theorem sameKey_eq {t : TypeId} {ks : KS} {k k' : V} (ht : keyT P t = some ks) (h : sameKey ks k k' = some true) : k = k' := by
  unfold keyT at ht
  split at ht
  · simp only [Option.some.injEq] at ht; subst ht
    exact sameCell_eq h
  · split at ht
    · next l hl =>
      split at ht
      · next hr =>
        simp only [Option.some.injEq] at ht; subst ht
        unfold sameKey at h
        split at h
        · next heq => cases heq
        · next l' xs ys heq =>
          cases heq
          split at h
          · next hc =>
            congr 1
            apply List.ext_getElem?
            intro i
            by_cases hi : i < l.length
            · exact sameAt_eq h i (by rw [hr]; simpa using hi)
            · rw [List.getElem?_eq_none (by omega), List.getElem?_eq_none (by omega)]
          · cases h
        · cases h
      · cases ht
    · cases ht

/-- What a search finds is the key itself. -/
theorem findV_key {t : TypeId} {ks : KS} {k : V} (ht : keyT P t = some ks) : ∀ {es : List (V × V)} {i : Nat} {v : V}, findV ks k es = some (some (i, v)) → es[i]? = some (k, v)
  | [], i, v, h => by simp [findV] at h
  | (k', u) :: es, i, v, h => by
    unfold findV at h
    split at h
    · next hs =>
      simp only [Option.some.injEq, Prod.mk.injEq] at h
      obtain ⟨rfl, rfl⟩ := h
      rw [sameKey_eq ht hs]; rfl
    · split at h
      · next j u' hj =>
        simp only [Option.some.injEq, Prod.mk.injEq] at h
        obtain ⟨rfl, rfl⟩ := h
        simpa using findV_key ht hj
      · cases h
      · cases h
    · cases h

theorem born_map (ms : Array MapEntry) (i : Nat) (f : MapEntry → MapEntry) (hf : ∀ e, (f e).born = e.born) : (ms.modify i f).toList.map (·.born) = ms.toList.map (·.born) := by
  apply List.ext_getElem?
  intro j
  simp only [List.getElem?_map, Array.getElem?_toList, Array.getElem?_modify]
  split
  · cases ms[j]? <;> simp [hf]
  · rfl

theorem pairwise_born {l m : List MapEntry} (h : l.map (·.born) = m.map (·.born)) (hp : l.Pairwise fun a b => a.born < b.born) : m.Pairwise fun a b => a.born < b.born := by
  have h1 : (l.map (·.born)).Pairwise (· < ·) := List.pairwise_map.2 hp
  rw [h] at h1
  exact List.pairwise_map.1 h1

theorem old_born {l m : List MapEntry} {c : Nat} (h : l.map (·.born) = m.map (·.born)) (ho : ∀ e ∈ l, e.born < c) : ∀ e ∈ m, e.born < c := by
  intro e he
  have : e.born ∈ m.map (·.born) := List.mem_map_of_mem he
  rw [← h] at this
  obtain ⟨e', h1, h2⟩ := List.mem_map.1 this
  rw [← h2]; exact ho e' h1

theorem stays (old new : Value) (w : World) : ∃ n v, (Instr.keyThatStays old new).run P w = .ok v { w with drawn := n } ∧ (v = old ∨ v = new) := by
  unfold Instr.keyThatStays
  split
  · exact ⟨w.drawn, new, by simp, .inr rfl⟩
  · refine ⟨w.drawn + 1, if (Question.extern "map.whichKeyStays" 2).cut (w.tape w.drawn (Question.extern "map.whichKeyStays" 2)) = 0 then new else old, ?_, ?_⟩
    · simp only [Sem.run_bind, run_choose, Question.forced]
      rfl
    · split
      · exact .inr rfl
      · exact .inl rfl

theorem map_state (hR : Rel P W0 ι D H w) {id : Nat} {es : List (V × V)} (hg : H.get id = some (.map es)) : ∃ ms clock, w.heap[(ι id).b]? = some (.map ms clock) ∧ REs ι D es ms.toList clock ∧ (ι id).o = 0 := by
  obtain ⟨h0, ms, clock, h1, h2⟩ := hR.objs _ _ hg
  exact ⟨ms, clock, h1, h2, h0⟩

theorem rel_map (hR : Rel P W0 ι D H w) {id : Nat} {es es' : List (V × V)} {ms' : Array MapEntry} {clock' n : Nat} (hg : H.get id = some (.map es)) (hes : REs ι D es' ms'.toList clock') :
    Rel P W0 ι D (H.set id (.map es')) (setBlk { w with drawn := n } (ι id).b (.map ms' clock')) ∧ Stp ι D H w ι D (H.set id (.map es')) (setBlk { w with drawn := n } (ι id).b (.map ms' clock')) := by
  obtain ⟨ms, clock, hb, _, h0⟩ := map_state hR hg
  have hs : SameOut w (setBlk { w with drawn := n } (ι id).b (.map ms' clock')) := ⟨rfl, rfl, rfl, by simp [setBlk]⟩
  have hk : ∀ b, b ≠ (ι id).b → (setBlk { w with drawn := n } (ι id).b (.map ms' clock')).heap[b]? = w.heap[b]? := fun b hb => setBlk_other (w := { w with drawn := n }) hb
  refine ⟨rel_set hR hg rfl (fun _ => rfl) hs hk ?_, stp_set hg rfl hs hk⟩
  exact ⟨h0, ms', clock', setBlk_same (w := { w with drawn := n }) hb, hes⟩

theorem mapUpd_sound (hR : Rel P W0 ι D H w) {t kt e : TypeId} {ks : KS} {m k x : Operand} {m' k' x' : X} {v : V} {H' : AH} (hu : P.underlying t = some (.map kt e)) (hk : keyT P kt = some ks) (hm : cX m = some m') (hkx : cX k = some k') (hx : cX x = some x')
    (h : aact (.mapUpd ks m' k' x') env H = some (v, H')) (he : REnv ds ι D N env a) :
    ∃ w', (Instr.mapUpdate t (a.eval m) (a.eval k) (a.eval x)).run P w = .ok () w' ∧ v = .tup [] ∧ Rel P W0 ι D H' w' ∧ Stp ι D H w ι D H' w' := by
  simp only [aact] at h
  split at h
  · next id kv xv hm0 hk0 hx0 =>
    split at h
    · next hko =>
      split at h
      · next es hg =>
        obtain ⟨e1, _⟩ := (cX_sound hm hm0 he).map_inv
        have rk := cX_sound hkx hk0 he
        have rx := cX_sound hx hx0 he
        obtain ⟨ms, clock, hb, hes, h0⟩ := map_state hR hg
        have hgo := run_getObj (P := P) hb (by intro c e f h; cases h)
        have hck := checkKey_sound (P := P) (w := w) (em := false) hk rk hko
        split at h
        · next q i u hf =>
          simp only [Option.some.injEq, Prod.mk.injEq] at h
          obtain ⟨rfl, rfl⟩ := h
          obtain ⟨r', g1, mm, g2, g3, g4⟩ := findKey_sound (P := P) (w := w) hk rk hes.keys hes.vals hf
          subst g2
          rw [Nat.zero_add] at g1
          have hkey := findV_key hk hf
          have hold : RV ι D kv mm.key := by
            obtain ⟨c, c1, c2⟩ := hes.keys.get i kv (by simp [hkey])
            simp [g3] at c1
            rw [← c1] at c2; exact c2
          obtain ⟨n, kc, s1, s2⟩ := stays (P := P) mm.key (a.eval k) w
          have hkc : RV ι D kv kc := by
            rcases s2 with h | h
            · rw [h]; exact hold
            · rw [h]; exact rk
          have hmk : ((ms[i]?).map (·.key)).getD (a.eval k) = mm.key := by
            have : ms[i]? = some mm := by simpa using g3
            simp [this]
          have hmod : (ms.modify i fun e => { e with key := kc, val := a.eval x }).toList = ms.toList.set i { mm with key := kc, val := a.eval x } := by
            have hi : ms[i]? = some mm := by simpa using g3
            rw [modify_set _ _ _ _ hi]; simp
          have hborn := born_map ms i (fun e => { e with key := kc, val := a.eval x }) (fun _ => rfl)
          refine ⟨setBlk { w with drawn := n } (ι id).b (.map (ms.modify i fun e => { e with key := kc, val := a.eval x }) clock), ?_, rfl, ?_⟩
          · unfold Instr.mapUpdate
            rw [e1]
            simp only [Sem.run_bind, run_underlying hu, Result.andThen_ok, hgo, hck, g1, hmk, s1]
            exact run_setObj (w := { w with drawn := n }) hb (by intro c e f h; cases h)
          · refine rel_map hR hg ⟨?_, ?_, pairwise_born hborn.symm hes.born, old_born hborn.symm hes.old⟩
            · rw [hmod, List.map_set, List.map_set]
              exact hes.keys.set i hkc
            · rw [hmod, List.map_set, List.map_set]
              exact hes.vals.set i rx
        · next hf =>
          simp only [Option.some.injEq, Prod.mk.injEq] at h
          obtain ⟨rfl, rfl⟩ := h
          obtain ⟨r', g1, g2⟩ := findKey_sound (P := P) (w := w) hk rk hes.keys hes.vals hf
          simp only [Found] at g2; subst g2
          refine ⟨setBlk { w with drawn := w.drawn } (ι id).b (.map (ms.push { key := a.eval k, val := a.eval x, born := clock }) (clock + 1)), ?_, rfl, ?_⟩
          · unfold Instr.mapUpdate
            rw [e1]
            simp only [Sem.run_bind, run_underlying hu, Result.andThen_ok, hgo, hck, g1]
            exact run_setObj hb (by intro c e f h; cases h)
          · refine rel_map hR hg ⟨?_, ?_, ?_, ?_⟩
            · simp only [Array.toList_push, List.map_append, List.map_cons, List.map_nil]
              exact hes.keys.append (.cons _ _ _ _ rk .nil)
            · simp only [Array.toList_push, List.map_append, List.map_cons, List.map_nil]
              exact hes.vals.append (.cons _ _ _ _ rx .nil)
            · rw [Array.toList_push, List.pairwise_append]
              refine ⟨hes.born, by simp, fun a ha b hb => ?_⟩
              simp only [List.mem_singleton] at hb
              subst hb
              exact hes.old a ha
            · intro b hb
              rw [Array.toList_push, List.mem_append] at hb
              rcases hb with hb | hb
              · have := hes.old b hb; omega
              · simp only [List.mem_singleton] at hb
                subst hb; simp
        · cases h
      · cases h
    · cases h
  · cases h

theorem del_sound (hR : Rel P W0 ι D H w) {t ty kt e : TypeId} {ts : Array TypeId} {ks : KS} {m k : Operand} {m' k' : X} {v : V} {H' : AH} (ht : ts[0]? = some t) (hu : P.underlying t = some (.map kt e)) (hk : keyT P kt = some ks) (hm : cX m = some m') (hkx : cX k = some k')
    (h : aact (.del ks m' k') env H = some (v, H')) (he : REnv ds ι D N env a) :
    ∃ w', (Builtin.delete_ ts ty #[a.eval m, a.eval k]).run P w = .ok (.tuple #[]) w' ∧ v = .tup [] ∧ Rel P W0 ι D H' w' ∧ Stp ι D H w ι D H' w' := by
  simp only [aact] at h
  split at h
  · next kv hm0 hk0 =>
    split at h
    · next hko =>
      simp only [Option.some.injEq, Prod.mk.injEq] at h
      obtain ⟨rfl, rfl⟩ := h
      have e1 := (cX_sound hm hm0 he).map0_inv
      have rk := cX_sound hkx hk0 he
      have hck := checkKey_sound (P := P) (w := w) (em := true) hk rk hko
      refine ⟨w, ?_, rfl, hR, Stp.refl⟩
      unfold Builtin.delete_
      simp [ht, run_underlying hu, e1, hck]
    · cases h
  · next id kv hm0 hk0 =>
    split at h
    · next hko =>
      split at h
      · next es hg =>
        obtain ⟨e1, _⟩ := (cX_sound hm hm0 he).map_inv
        have rk := cX_sound hkx hk0 he
        obtain ⟨ms, clock, hb, hes, h0⟩ := map_state hR hg
        have hgo := run_getObj (P := P) hb (by intro c e f h; cases h)
        have hck := checkKey_sound (P := P) (w := w) (em := ms.isEmpty) hk rk hko
        split at h
        · next q i u hf =>
          simp only [Option.some.injEq, Prod.mk.injEq] at h
          obtain ⟨rfl, rfl⟩ := h
          obtain ⟨r', g1, mm, g2, g3, g4⟩ := findKey_sound (P := P) (w := w) hk rk hes.keys hes.vals hf
          subst g2
          rw [Nat.zero_add] at g1
          have her : (ms.eraseIdxIfInBounds i).toList = ms.toList.eraseIdx i := by
            have hi := (List.getElem?_eq_some_iff.1 g3).1
            simp at hi
            simp [Array.eraseIdxIfInBounds, hi]
          refine ⟨setBlk { w with drawn := w.drawn } (ι id).b (.map (ms.eraseIdxIfInBounds i) clock), ?_, rfl, ?_⟩
          · have hso := run_setObj (P := P) (O := .map (ms.eraseIdxIfInBounds i) clock) hb (by intro c e f h; cases h)
            unfold Builtin.delete_
            simp [ht, run_underlying hu, e1, hgo, hck, g1, hso]
          · refine rel_map hR hg ⟨?_, ?_, ?_, ?_⟩
            · rw [her, map_erase, map_erase]; exact hes.keys.eraseIdx i
            · rw [her, map_erase, map_erase]; exact hes.vals.eraseIdx i
            · rw [her]; exact hes.born.sublist (List.eraseIdx_sublist _ _)
            · rw [her]; exact fun e he => hes.old e (List.mem_of_mem_eraseIdx he)
        · next hf =>
          simp only [Option.some.injEq, Prod.mk.injEq] at h
          obtain ⟨rfl, rfl⟩ := h
          obtain ⟨r', g1, g2⟩ := findKey_sound (P := P) (w := w) hk rk hes.keys hes.vals hf
          simp only [Found] at g2; subst g2
          have hso := run_setObj (P := P) (O := .map ms clock) hb (by intro c e f h; cases h)
          have hw : setBlk w (ι id).b (.map ms clock) = w := by
            cases w with
            | mk heap tape drawn os output =>
              simp only [setBlk] at hb ⊢
              congr 1
              obtain ⟨hb1, hb2⟩ := Array.getElem?_eq_some_iff.1 hb
              apply Array.ext_getElem?
              intro j
              by_cases e : (ι id).b = j
              · rw [← e]; simp [hb1, hb2]
              · simp [Array.getElem?_setIfInBounds_ne e]
          refine ⟨w, ?_, rfl, hR, Stp.refl⟩
          rw [hw] at hso
          unfold Builtin.delete_
          simp [ht, run_underlying hu, e1, hgo, hck, g1, hso]
        · cases h
      · cases h
    · cases h
  · cases h

end Ram

/- What is written to memory: append, copy, clear, a text gone through. -/
namespace Ram
open Go
open Go.RowKit (Below Hid)

variable {P : Program} {W0 : World} {ι : Inj} {D : Nat → Prop} {N : Nat} {ds : List Deferred} {env : Env} {a : Act} {w w' : World} {H : AH}

/-- The cells that are added, as the model reads them. -/
theorem newCells_sound (hR : Rel P W0 ι D H w) {es : Nat} {y : V} {c : Value} {m : Nat} {xs : List V} (hy : RV ι D y c) (h : newCells H es y = some (m, xs)) :
    ∃ ds : List Value, RVs ι D xs ds ∧ (Builtin.lenOf c).run P w = .ok m w ∧ (Builtin.firstCells es m c).run P w = .ok ds.toArray w ∧ ds.length = m * es ∧ (∀ v ∈ xs, v.one = true) ∧
      (∀ k, k ≤ m → (Builtin.firstCells es k c).run P w = .ok (ds.take (k * es)).toArray w) := by
  unfold newCells at h
  split at h
  · next es' n q =>
    simp only [Option.some.injEq, Prod.mk.injEq] at h
    obtain ⟨rfl, rfl⟩ := h
    obtain ⟨e, rfl, rfl⟩ := hy.sl0_inv
    subst e
    refine ⟨[], .nil, rfl, rfl, by simp, by simp, fun k hk => ?_⟩
    have : k = 0 := by omega
    subst this
    simp [Builtin.firstCells]
  · next es' id o len cap =>
    split at h
    · next hes =>
      split at h
      · next cs hc =>
        simp only [Option.some.injEq, Prod.mk.injEq] at h
        obtain ⟨rfl, rfl⟩ := h
        subst hes
        obtain ⟨cc, k0, e, hd, h1, h2, h3, h4⟩ := hy.sl_inv
        subst e
        obtain ⟨ds, r, hl, hcell, ho, _⟩ := row_cells hR hc
        have load : ∀ k, k ≤ len → (loadCells k0 (k * es')).run P w = .ok (ds.take (k * es')).toArray w := by
          intro k hk
          rcases h4 with h4 | ⟨h4, _⟩
          · have : k = 0 := by omega
            subst this
            simp [loadCells, loadCellsFrom]
          · subst h4
            have hle : k * es' ≤ ds.length := by rw [hl]; exact Nat.mul_le_mul_right _ hk
            have := run_loadCells_list (P := P) w ⟨(ι id).b, (ι id).o + o, none⟩ (ds.take (k * es')) (fun j v hj => by
              rw [List.getElem?_take] at hj
              split at hj
              · exact hcell j v hj
              · cases hj)
            rw [List.length_take, Nat.min_eq_left hle] at this
            exact this
        refine ⟨ds, r, rfl, ?_, hl, ho, fun k hk => load k hk⟩
        have := load len (Nat.le_refl _)
        rw [List.take_of_length_le (by omega)] at this
        exact this
      · cases h
    · cases h
  · next l =>
    split at h
    · next hes =>
      simp only [Option.some.injEq, Prod.mk.injEq] at h
      obtain ⟨rfl, rfl⟩ := h
      subst hes
      have e := hy.str_inv
      subst e
      have hsz : (⟨l.toArray⟩ : ByteArray).size = l.length := by simp [ByteArray.size]
      have key : ∀ k, k ≤ l.length → (Builtin.firstCells 1 k (.string ⟨l.toArray⟩)).run P w = .ok (((l.map fun (b : UInt8) => Value.int .u8 b.toNat)).take (k * 1)).toArray w := by
        intro k hk
        simp only [Builtin.firstCells, Sem.run_pure]
        congr 1
        apply Array.ext'
        simp [ByteArray.data_extract, List.map_take]
      refine ⟨l.map fun (b : UInt8) => Value.int .u8 b.toNat, ?_, by simp [Builtin.lenOf, hsz], ?_, by simp, by simp [V.one], key⟩
      · refine RVs.of_get (by simp) fun j v hj => ?_
        simp only [List.getElem?_map, Option.map_eq_some_iff] at hj
        obtain ⟨c, h1, rfl⟩ := hj
        exact ⟨_, by simp [h1], RV.i _ _⟩
      · have := key l.length (Nat.le_refl _)
        rw [List.take_of_length_le (by simp)] at this
        exact this
    · cases h
  · cases h

theorem RV.sl_len {es len cap : Nat} {p : Option (Nat × Nat)} {c : Value} (h : RV ι D (.sl es p len cap) c) : ∃ q m, c = .slice q len m := by
  cases h <;> exact ⟨_, _, rfl⟩

theorem clearM_sound (hR : Rel P W0 ι D H w) {t ty kt e : TypeId} {ts : Array TypeId} {m : Operand} {m' : X} {v : V} {H' : AH} (ht : ts[0]? = some t) (hu : P.underlying t = some (.map kt e)) (hm : cX m = some m')
    (h : aact (.clearM m') env H = some (v, H')) (he : REnv ds ι D N env a) :
    ∃ w', (Builtin.clear_ ts ty #[a.eval m]).run P w = .ok (.tuple #[]) w' ∧ v = .tup [] ∧ Rel P W0 ι D H' w' ∧ Stp ι D H w ι D H' w' := by
  simp only [aact] at h
  split at h
  · next hm0 =>
    simp only [Option.some.injEq, Prod.mk.injEq] at h
    obtain ⟨rfl, rfl⟩ := h
    have e1 := (cX_sound hm hm0 he).map0_inv
    refine ⟨w, ?_, rfl, hR, Stp.refl⟩
    unfold Builtin.clear_
    simp [ht, run_underlying hu, e1]
  · next id hm0 =>
    split at h
    · next es hg =>
      simp only [Option.some.injEq, Prod.mk.injEq] at h
      obtain ⟨rfl, rfl⟩ := h
      obtain ⟨e1, _⟩ := (cX_sound hm hm0 he).map_inv
      obtain ⟨ms, clock, hb, hes, h0⟩ := map_state hR hg
      have hgo := run_getObj (P := P) hb (by intro c e f h; cases h)
      have hso := run_setObj (P := P) (O := .map #[] clock) hb (by intro c e f h; cases h)
      refine ⟨setBlk { w with drawn := w.drawn } (ι id).b (.map #[] clock), ?_, rfl, rel_map hR hg ⟨.nil, .nil, .nil, by simp⟩⟩
      unfold Builtin.clear_
      simp [ht, run_underlying hu, e1, hgo, hso]
    · cases h
  · cases h

/-- A row written at the place of a slice. -/
theorem store_at (hR : Rel P W0 ι D H w) {id o : Nat} {md : Md} {cs vs : List V} {ds : List Value} (hg : H.get id = some (.cells md cs)) (hmd : md ≠ .ro) (hv : RVs ι D vs ds) (hv1 : ∀ v ∈ vs, v.one = true) (hfit : o + vs.length ≤ cs.length) :
    ∃ w', (storeCells ⟨(ι id).b, (ι id).o + o, none⟩ ds).run P w = .ok () w' ∧ Rel P W0 ι D (H.set id (.cells md (splice cs o vs))) w' ∧ Stp ι D H w ι D (H.set id (.cells md (splice cs o vs))) w' := by
  obtain ⟨c, e, fr, g1, g2, g3, g4, g5, g6, g7⟩ := hR.objs _ _ hg
  have hl := hv.length
  have hfr : ∀ k, k < c.size → ¬ (fr.1 ≤ k ∧ k < fr.2) := by
    cases md with
    | ro => exact absurd rfl hmd
    | rw => intro k hk; rw [g6 rfl]; simp
    | rws => exact g7 rfl
  obtain ⟨c', f1, f2⟩ := run_storeRow (P := P) (o := (ι id).o + o) ds 0 c w g1 (by omega) (hv.one hv1) hfr
  have hown : (AO.cells md cs).owns = true := by cases md <;> first | rfl | exact absurd rfl hmd
  refine ⟨setBlk w (ι id).b (.cells c' e fr), f1, ?_, stp_set hg hown (setBlk_out _ _ _) (fun b hb => setBlk_other hb)⟩
  refine rel_set hR hg hown (by intro; cases md <;> first | rfl | exact absurd rfl hmd) (setBlk_out _ _ _) (fun b hb => setBlk_other hb) ?_
  exact robj_written (setBlk_same g1) g2 g3 g4 g5 g6 g7 (by simpa using f2) hv hv1 hfit

theorem clearSl_sound (hR : Rel P W0 ι D H w) {t ty e s : TypeId} {ts : Array TypeId} {zs : List V} {x : Operand} {x' : X} {v : V} {H' : AH} (ht : ts[0]? = some t) (hu : P.underlying t = some (.slice e)) (hz : zeroT P e = some zs) (hzl : zs.length = s + 1)
    (h1 : zs.all V.one = true) (hx : cX x = some x') (h : aact (.clearSl (s + 1) zs x') env H = some (v, H')) (he : REnv ds ι D N env a) :
    ∃ w', (Builtin.clear_ ts ty #[a.eval x]).run P w = .ok (.tuple #[]) w' ∧ v = .tup [] ∧ Rel P W0 ι D H' w' ∧ Stp ι D H w ι D H' w' := by
  simp only [aact] at h
  split at h
  · next es n c hv =>
    simp only [Option.some.injEq, Prod.mk.injEq] at h
    obtain ⟨rfl, rfl⟩ := h
    obtain ⟨e1, _, _⟩ := (cX_sound hx hv he).sl0_inv
    refine ⟨w, ?_, rfl, hR, Stp.refl⟩
    unfold Builtin.clear_
    simp [ht, run_underlying hu, e1]
  · next hv =>
    simp only [Option.some.injEq, Prod.mk.injEq] at h
    obtain ⟨rfl, rfl⟩ := h
    obtain ⟨q, m, e1⟩ := (cX_sound hx hv he).sl_len
    refine ⟨w, ?_, rfl, hR, Stp.refl⟩
    unfold Builtin.clear_
    cases q <;> simp [ht, run_underlying hu, e1]
  · next es id o len cap hne hv =>
    split at h
    · next md cs hg =>
      split at h
      · next hc =>
        simp only [Option.some.injEq, Prod.mk.injEq] at h
        obtain ⟨rfl, rfl⟩ := h
        obtain ⟨c1, c2, c3⟩ := hc
        subst c1
        obtain ⟨cc, k, e1, hd, b1, b2, b3, b4⟩ := (cX_sound hx hv he).sl_inv
        have hlen : len ≠ 0 := fun h0 => hne h0
        have hk : k = ⟨(ι id).b, (ι id).o + o, none⟩ := by rcases b4 with h | h; omega; exact h.1
        subst hk
        obtain ⟨z, hz1, hz2, _⟩ := run_zeroValue (ι := ι) (D := D) hz w
        have hrel := zeros_rel (n := len) hz2 hzl (Nat.succ_pos s)
        obtain ⟨w', f1, f2, f3⟩ := store_at (P := P) hR hg c2 hrel (one_flat h1) (by simp [hzl]; omega)
        refine ⟨w', ?_, rfl, f2, f3⟩
        have hzc : (Builtin.zeroCells z.cells len).toList = ((Array.range (len * (s + 1))).map (z.cells[· % z.cells.size]!)).toList := by
          have := hz2.length
          simp only [Array.length_toList] at this
          unfold Builtin.zeroCells
          rw [← this, hzl]
        unfold Builtin.clear_
        obtain ⟨n', rfl⟩ : ∃ n', len = n' + 1 := ⟨len - 1, by omega⟩
        simp only [ht, List.getElem?_toArray, List.getElem?_cons_zero, Sem.run_bind, run_underlying hu, Result.andThen_ok, e1, hz1, hzc, f1, Sem.run_pure]
      · cases h
    · cases h
  · cases h

theorem copy_sound (hR : Rel P W0 ι D H w) {t ty e s : TypeId} {ts : Array TypeId} {x y : Operand} {x' y' : X} {v : V} {H' : AH} (ht : ts[0]? = some t) (hu : P.underlying t = some (.slice e)) (hs : sizeT P e = some s) (hx : cX x = some x') (hy : cX y = some y')
    (h : aact (.copy s x' y') env H = some (v, H')) (he : REnv ds ι D N env a) :
    ∃ c w', (Builtin.copy_ ts ty #[a.eval x, a.eval y]).run P w = .ok c w' ∧ RV ι D v c ∧ Rel P W0 ι D H' w' ∧ Stp ι D H w ι D H' w' := by
  simp only [aact] at h
  split at h
  · next es p len cap y0 hv hy0 =>
    split at h
    · next m xs hn =>
      obtain ⟨ds, r, l1, l2, l3, l4, l5⟩ := newCells_sound (P := P) hR (cX_sound hy hy0 he) hn
      split at h
      · simp only [Option.some.injEq, Prod.mk.injEq] at h
        obtain ⟨rfl, rfl⟩ := h
        obtain ⟨e1, rfl, _⟩ := (cX_sound hx hv he).sl0_inv
        have h0 := l5 0 (Nat.zero_le _)
        refine ⟨_, w, ?_, RV.i _ _, hR, Stp.refl⟩
        unfold Builtin.copy_
        have hm0 : Nat.min m 0 = 0 := Nat.min_zero m
        simp only [ht, List.getElem?_toArray, List.getElem?_cons_zero, List.getElem?_cons_succ, Sem.run_bind, run_underlying hu, Result.andThen_ok, e1, l1, hm0, run_sizeOf hs, h0, Sem.run_pure, goInt]
        rfl
      · next id o =>
        split at h
        · next md cs hg =>
          split at h
          · next hc =>
            simp only [Option.some.injEq, Prod.mk.injEq] at h
            obtain ⟨rfl, rfl⟩ := h
            obtain ⟨c1, c2, c3⟩ := hc
            subst c1
            obtain ⟨cc, k, e1, hd, b1, b2, b3, b4⟩ := (cX_sound hx hv he).sl_inv
            have hmin : Nat.min m len = min m len := rfl
            have hfirst := l5 (min m len) (Nat.min_le_left _ _)
            have hxl : xs.length = m * es := by rw [r.length, l3]
            have hle : min m len * es ≤ m * es := Nat.mul_le_mul_right _ (Nat.min_le_left _ _)
            obtain ⟨w', f1, f2, f3⟩ := store_at (P := P) (o := o) hR hg c2 (r.take (min m len * es)) (fun v hv => l4 v (List.mem_of_mem_take hv)) (by rw [List.length_take]; omega)
            refine ⟨_, w', ?_, RV.i _ _, f2, f3⟩
            have hst : (storeCells k (ds.take (min m len * es))).run P w = .ok () w' := by
              rcases b4 with b4 | ⟨b4, _⟩
              · have hl0 : len = 0 := by omega
                subst hl0
                simp only [Nat.min_zero, Nat.zero_mul, List.take_zero, storeCells, Sem.run_pure] at f1 ⊢
                exact f1
              · rw [b4]; exact f1
            unfold Builtin.copy_
            simp only [ht, List.getElem?_toArray, List.getElem?_cons_zero, List.getElem?_cons_succ, Sem.run_bind, run_underlying hu, Result.andThen_ok, e1, l1, hmin, run_sizeOf hs, hfirst, hst, Sem.run_pure, goInt]
          · cases h
        · cases h
    · cases h
  · cases h

/-- An append into what there is. -/
theorem append_room {t t' ty e s : TypeId} {ts : Array TypeId} {base : Option Addr} {n cap m : Nat} {y : Value} {ds : List Value} {d' : TypeDesc} (h0 : ts[0]? = some t) (h1 : ts[1]? = some t') (hu : P.underlying t = some (.slice e)) (hu' : P.underlying t' = some d')
    (hd : ∀ k, d' ≠ .int k) (hs : sizeT P e = some s) (hl : (Builtin.lenOf y).run P w = .ok m w) (hf : (Builtin.firstCells s m y).run P w = .ok ds.toArray w) (hle : n + m ≤ cap) :
    (Builtin.append_ ts ty #[.slice base n cap, y]).run P w = (match base with
      | some q => ((storeCells (q.add (n * s)) ds).run P w).andThen fun _ w' => .ok (.slice base (n + m) cap) w'
      | none => .ok (.slice none (n + m) cap) w) := by
  have hso := run_sizeOf hs w
  unfold Builtin.append_
  cases base with
  | none => simp [h0, h1, run_underlying hu, run_underlying hu', hso, hl, hf, hle]
  | some q => simp [h0, h1, run_underlying hu, run_underlying hu', hso, hl, hf, hle]

/-- An append into a new row. -/
theorem append_grow {t t' ty e s b : TypeId} {ts : Array TypeId} {base : Option Addr} {n cap m : Nat} {y : Value} {ds os : List Value} {z : Value} {d' : TypeDesc} (h0 : ts[0]? = some t) (h1 : ts[1]? = some t') (hu : P.underlying t = some (.slice e)) (hu' : P.underlying t' = some d')
    (hd : ∀ k, d' ≠ .int k) (hs : sizeT P e = some s) (hb : bytesT P e = some (b + 1)) (hl : (Builtin.lenOf y).run P w = .ok m w) (hbytes : (n + m) * (b + 1) ≤ 140737488355328) (hgt : ¬ n + m ≤ cap)
    (ho : (Builtin.firstCells s n (.slice base n cap)).run P w.drew = .ok os.toArray w.drew) (hd' : (Builtin.firstCells s m y).run P w.drew = .ok ds.toArray w.drew) (hz' : (zeroValue e).run P w.drew = .ok z w.drew) :
    (Builtin.append_ ts ty #[.slice base n cap, y]).run P w = .ok (.slice (some ⟨w.heap.size, 0, none⟩) (n + m) (grownCap w (n + m) cap e))
        (w.drew.alloc (.cells (os.toArray ++ ds.toArray ++ Builtin.zeroCells z.cells (grownCap w (n + m) cap e - (n + m))) e)) := by
  cases hi : P.info? e with
  | none => simp [sizeT, hi] at hs
  | some i =>
    simp [sizeT, hi] at hs
    simp [bytesT, hi] at hb
    subst hs
    have hti := run_typeInfo hi w
    have hti' := run_typeInfo hi w.drew
    have hso : (Go.sizeOf e).run P w = .ok i.size w := by simp [Go.sizeOf, hti]
    have hfit : ¬ (281474976710656 < Builtin.nextslicecap (n + m) cap * i.bytes) := by
      rw [hb]
      have := growslice_fits (need := n + m) (old := cap) (bytes := b + 1) (by omega) hbytes
      omega
    have hb0 : ¬ i.bytes = 0 := by omega
    have hforced : (Question.appendCap (n + m) cap e).forced = false := rfl
    unfold Builtin.append_
    simp [h0, h1, run_underlying hu, run_underlying hu', hso, hl, hgt, hti, hfit, hb0]
    rw [hforced]
    simp [hti', ho, hd', hz', newRow, grownCap]
    congr 2
    rw [← List.append_toArray, Array.append_assoc]

theorem Rel.drew (hR : Rel P W0 ι D H w) : Rel P W0 ι D H w.drew :=
  ⟨hR.objs, hR.dom, hR.lt, hR.get_lt, hR.apart, hR.new, hR.inw, hR.below.trans ⟨rfl, rfl, rfl, Nat.le_refl _, fun _ _ => rfl⟩⟩

theorem row_tail {L L' ds : List Value} {p o n q : Nat} (h : L' = L.take (p + o + n) ++ ds ++ L.drop (p + o + n + ds.length)) (hl : p + o + n ≤ L.length) (hq : o + n = q) :
    (L'.drop (p + o)).take (n + ds.length) = ((L.drop p).take q).drop o ++ ds := by
  subst h; subst hq
  have e1 : L.take (p + o + n) = L.take (p + o) ++ (L.drop (p + o)).take n := List.take_add
  have hpl : (L.take (p + o)).length = p + o := by simp; omega
  have e2 : (L.take (p + o + n) ++ ds ++ L.drop (p + o + n + ds.length)).drop (p + o) = (L.drop (p + o)).take n ++ ds ++ L.drop (p + o + n + ds.length) := by
    rw [e1, List.append_assoc, List.append_assoc, List.drop_left' hpl, List.append_assoc]
  have hlen : ((L.drop (p + o)).take n ++ ds).length = n + ds.length := by simp; omega
  rw [e2, ← hlen, List.take_left]
  congr 1
  rw [List.drop_take, List.drop_drop]
  congr 1
  omega

theorem append_sound (hR : Rel P W0 ι D H w) {t t' ty e s b : TypeId} {ts : Array TypeId} {d' : TypeDesc} {x y : Operand} {x' y' : X} {v : V} {H' : AH} (h0 : ts[0]? = some t) (h1 : ts[1]? = some t') (hu : P.underlying t = some (.slice e)) (hu' : P.underlying t' = some d')
    (hd : ∀ k, d' ≠ .int k) (hs : sizeT P e = some (s + 1)) (hb : bytesT P e = some (b + 1)) (hz : ∃ z, (P.info? e).map (·.zero) = some (some z) ∧ z.cells.size = s + 1) (hx : cX x = some x') (hy : cX y = some y')
    (h : aact (.append (s + 1) (b + 1) x' y') env H = some (v, H')) (he : REnv ds ι D N env a) : Act1 P W0 ι D H (Builtin.append_ ts ty #[a.eval x, a.eval y]) w v H' := by
  obtain ⟨z, hz1, hz2⟩ := hz
  have hzr : ∀ w, (zeroValue e).run P w = .ok z w := by
    intro w
    cases hi : P.info? e with
    | none => simp [hi] at hz1
    | some i => simp [hi] at hz1; simp [zeroValue, run_typeInfo hi, hz1]
  simp only [aact] at h
  split at h
  · next es p len cap yv hv hyv =>
    split at h
    · next m xs hn =>
      split at h
      · next hbd =>
        obtain ⟨hb1, hb2⟩ := hbd
        have ry := cX_sound hy hyv he
        obtain ⟨ds, r, l1, l2, l3, l4, l5⟩ := newCells_sound (P := P) hR ry hn
        obtain ⟨ds', r', l1', l2', l3', _, _⟩ := newCells_sound (P := P) hR.drew ry hn
        have hxl : xs.length = m * (s + 1) := by rw [r.length, l3]
        -- into a new row, out of whatever there was
        have grown : ∀ (base : Option Addr) (n ccap : Nat) (os : List Value) (us : List V) (H1 : AH) (md : Md), ¬ n + m ≤ ccap → n + m ≤ maxLen → (n + m) * (b + 1) ≤ 140737488355328 →
            (Builtin.firstCells (s + 1) n (.slice base n ccap)).run P w.drew = .ok os.toArray w.drew → RVs ι D us os → us.length = n * (s + 1) → (∀ u ∈ us, u.one = true) → Rel P W0 ι D H1 w → H1.next = H.next → Stp ι D H w ι D H1 w →
            Act1 P W0 ι D H (Builtin.append_ ts ty #[.slice base n ccap, a.eval y]) w (.sl (s + 1) (some (H.next, 0)) (n + m) (n + m)) (H1.alloc (.cells md (us ++ xs))) := by
          intro base n ccap os us H1 md hgt hml hbb hos hus husl hus1 hR1 hnx hst
          have hrun := append_grow (P := P) (ty := ty) h0 h1 hu hu' hd hs hb l1 hbb hgt hos l2' (hzr _)
          have hge := grownCap_ge w (n + m) ccap e
          have hcm := grownCap_le_maxLen w (n + m) ccap e hml
          generalize grownCap w (n + m) ccap e = C at *
          have husl' := hus.length
          have hsz : (os.toArray ++ ds'.toArray ++ Builtin.zeroCells z.cells (C - (n + m))).size = C * (s + 1) := by
            simp only [Array.size_append, List.size_toArray, size_zeroCells, hz2, l3']
            rw [← husl', husl, ← Nat.add_mul, ← Nat.add_mul]
            congr 1; omega
          have hfr := hR1.fresh
          have hlen : (us ++ xs).length = (n + m) * (s + 1) := by rw [List.length_append, husl, hxl, ← Nat.add_mul]
          have hcs : (n + m) * (s + 1) ≤ C * (s + 1) := Nat.mul_le_mul_right _ hge
          have hal := rel_alloc (o := .cells md (us ++ xs)) (O := .cells (os.toArray ++ ds'.toArray ++ Builtin.zeroCells z.cells (C - (n + m))) e (0, 0)) (n := C * (s + 1)) (w' := w.drew.alloc (.cells (os.toArray ++ ds'.toArray ++ Builtin.zeroCells z.cells (C - (n + m))) e)) hR1
            ⟨rfl, rfl, rfl, by show w.heap.size ≤ (w.heap.push _).size; simp⟩ rfl (by
              refine robj_cells (w := w) (e := e) (fr := (0, 0)) (ds := os.toArray ++ ds'.toArray ++ Builtin.zeroCells z.cells (C - (n + m))) (by show (w.heap.push _)[w.heap.size]? = _; simp) hsz (by omega) ?_ ?_ hfr (fun _ => rfl) (fun _ k _ => by simp)
              · intro v hv
                rcases List.mem_append.1 hv with hv | hv
                · exact hus1 v hv
                · exact l4 v hv
              · have ht : (os.toArray ++ ds'.toArray ++ Builtin.zeroCells z.cells (C - (n + m))).toList.take (us ++ xs).length = os ++ ds' := by
                  simp only [Array.toList_append]
                  have hol : (os ++ ds').length = (us ++ xs).length := by rw [List.length_append, List.length_append, husl', r'.length]
                  rw [← hol, List.take_append_of_le_length (Nat.le_refl _), List.take_length]
                rw [ht]
                exact hus.append r')
          obtain ⟨hA, hB⟩ := hal
          refine ⟨_, _, _, _, hrun, ?_, hA, hst.trans hB⟩
          rw [← hnx]
          exact rv_newsl hge hcm (Nat.le_refl _)
        have hml : len + m ≤ maxLen := by unfold maxLen; omega
        split at h
        · -- nil
          obtain ⟨e1, rfl, rfl⟩ := (cX_sound hx hv he).sl0_inv
          split at h
          · next hm0 =>
            simp only [Option.some.injEq, Prod.mk.injEq] at h
            obtain ⟨rfl, rfl⟩ := h
            subst hm0
            refine ⟨_, w, ι, D, ?_, RV.sl0 _, hR, Stp.refl⟩
            rw [e1, append_room (P := P) (ty := ty) h0 h1 hu hu' hd hs l1 l2 (Nat.le_refl _)]
          · next hm0 =>
            simp only [Option.some.injEq, Prod.mk.injEq] at h
            obtain ⟨rfl, rfl⟩ := h
            have := grown none 0 0 [] [] H .rw (by omega) (by omega) (by omega) (by simp [Builtin.firstCells]) .nil (by simp) (by simp) hR rfl Stp.refl
            simp only [Nat.zero_add, List.nil_append] at this
            rw [e1]
            exact this
        · next id o =>
          split at h
          · cases h
          · next hes =>
            have hes : es = s + 1 := by
              by_cases hq : es = s + 1
              · exact hq
              · exact absurd hq hes
            subst hes
            obtain ⟨cc, k, e1, hdd, b1, b2, b3, b4⟩ := (cX_sound hx hv he).sl_inv
            split at h
            · next hm0 =>
              simp only [Option.some.injEq, Prod.mk.injEq] at h
              obtain ⟨rfl, rfl⟩ := h
              subst hm0
              have hds : ds = [] := List.eq_nil_of_length_eq_zero (by simpa using l3)
              subst hds
              refine ⟨_, w, ι, D, ?_, RV.sl (s + 1) id o k len cap cc hdd b1 b2 b3 b4, hR, Stp.refl⟩
              rw [e1, append_room (P := P) (ty := ty) h0 h1 hu hu' hd hs l1 l2 (by omega)]
              simp [storeCells]
            · next hm0 =>
              split at h
              · next md cs hg =>
                split at h
                · cases h
                · next hmd =>
                  obtain ⟨c, e', fr, g1, g2, g3, g4, g5, g6, g7⟩ := hR.objs _ _ hg
                  split at h
                  · next hcap =>
                    split at h
                    · next hfit =>
                      simp only [Option.some.injEq, Prod.mk.injEq] at h
                      obtain ⟨rfl, rfl⟩ := h
                      have hk : k = ⟨(ι id).b, (ι id).o + o, none⟩ := by rcases b4 with b4 | b4; omega; exact b4.1
                      subst hk
                      have hmul : (len + m) * (s + 1) = len * (s + 1) + m * (s + 1) := Nat.add_mul _ _ _
                      obtain ⟨w', f1, f2, f3⟩ := store_at (P := P) (o := o + len * (s + 1)) hR hg hmd r l4 (by omega)
                      refine ⟨_, w', ι, D, ?_, RV.sl (s + 1) id o ⟨(ι id).b, (ι id).o + o, none⟩ (len + m) cap cc hdd (by omega) b2 b3 b4, f2, f3⟩
                      rw [e1, append_room (P := P) (ty := ty) h0 h1 hu hu' hd hs l1 l2 (by omega)]
                      simp only [Addr_add, Nat.add_assoc] at f1 ⊢
                      rw [f1]; rfl
                    · cases h
                  · next hcap =>
                    split at h
                    · next hend =>
                      simp only [Option.some.injEq, Prod.mk.injEq] at h
                      obtain ⟨rfl, rfl⟩ := h
                      have hown : (AO.cells md cs).owns = true := by cases md <;> first | rfl | exact absurd rfl hmd
                      by_cases hroom : len + m ≤ cc
                      · -- in its place
                        have hcc : cc ≠ 0 := by omega
                        have hk : k = ⟨(ι id).b, (ι id).o + o, none⟩ ∧ (ι id).o + o + cc * (s + 1) ≤ (ι id).n := by rcases b4 with b4 | b4; exact absurd b4 hcc; exact b4
                        obtain ⟨hk, hfit⟩ := hk
                        subst hk
                        have hmul : (len + m) * (s + 1) = len * (s + 1) + m * (s + 1) := Nat.add_mul _ _ _
                        have hle : (len + m) * (s + 1) ≤ cc * (s + 1) := Nat.mul_le_mul_right _ hroom
                        have hfr : ∀ k, k < c.size → ¬ (fr.1 ≤ k ∧ k < fr.2) := by
                          cases md with
                          | ro => exact absurd rfl hmd
                          | rw => intro k hk; rw [g6 rfl]; simp
                          | rws => exact g7 rfl
                        obtain ⟨c', f1, f2⟩ := run_storeRow (P := P) (o := (ι id).o + o + len * (s + 1)) ds 0 c w g1 (by omega) (r.one l4) hfr
                        simp only [Nat.add_zero] at f2
                        have hcl : c'.size = c.size := by
                          have := congrArg List.length f2
                          simp only [Array.length_toList, List.length_append, List.length_take, List.length_drop] at this
                          omega
                        have hkeep : Rel P W0 ι D (H.set id .dead) w := rel_set hR hg hown (by simp [AO.live]) ⟨rfl, rfl, rfl, Nat.le_refl _⟩ (fun _ _ => rfl) trivial
                        have hst : Stp ι D H w ι D (H.set id .dead) w := stp_set hg hown ⟨rfl, rfl, rfl, Nat.le_refl _⟩ (fun _ _ => rfl)
                        have hoth : ∀ j u, (H.set id .dead).get j = some u → u.live = true → (ι j).b ≠ (ι id).b := by
                          intro j u hj hl
                          rw [AH.get_set] at hj
                          split at hj
                          · simp only [Option.some.injEq] at hj; subst hj; cases hl
                          · next hne => exact fun h => hR.apart id j _ _ hg hj hown hl (fun e => hne e.symm) h.symm
                        have hnew := rel_new (pl := ⟨(ι id).b, (ι id).o + o, (ι id).n⟩) (o := .cells md (cs.drop o ++ xs)) (w' := setBlk w (ι id).b (.cells c' e' fr)) hkeep (setBlk_out _ _ _)
                          (fun j u hj hl => setBlk_other (hoth j u hj hl)) (fun b hb => setBlk_other (by have := hR.new id _ hg hown; omega)) hoth (hR.new id _ hg hown) (by simp [setBlk]; exact hR.inw id hdd) (by
                            have hxe := ext_upd (ι := ι) (p := ⟨(ι id).b, (ι id).o + o, (ι id).n⟩) hkeep.fresh
                            refine ⟨c', e', fr, setBlk_same g1, by simp only; omega, by simp only [List.length_append, List.length_drop]; omega, ?_, ?_, g6, fun hm k hk => g7 hm k (by omega)⟩
                            · intro v hv
                              rcases List.mem_append.1 hv with hv | hv
                              · exact g4 v (List.mem_of_mem_drop hv)
                              · exact l4 v hv
                            · have hK : (cs.drop o ++ xs).length = len * (s + 1) + ds.length := by simp only [List.length_append, List.length_drop]; omega
                              have hshape : (c'.toList.drop ((ι id).o + o)).take (len * (s + 1) + ds.length) = ((c.toList.drop (ι id).o).take cs.length).drop o ++ ds :=
                                row_tail f2 (by simp; omega) (by omega)
                              simp only
                              rw [hK, hshape]
                              exact ((g5.drop o).append r).ext hxe)
                        have hstp := stp_new (pl := ⟨(ι id).b, (ι id).o + o, (ι id).n⟩) (o := .cells md (cs.drop o ++ xs)) (w' := setBlk w (ι id).b (.cells c' e' fr)) hR (setBlk_out _ _ _) (fun b hb hno => setBlk_other (fun e => hno ⟨id, _, hg, hown, e.symm⟩)) (.inr ⟨id, _, hg, hown, rfl⟩)
                        have hstp' : Stp ι D H w (updI ι H.next ⟨(ι id).b, (ι id).o + o, (ι id).n⟩) (addD D H.next) ((H.set id .dead).alloc (.cells md (cs.drop o ++ xs))) (setBlk w (ι id).b (.cells c' e' fr)) := by
                          have sub : ∀ i u, ((H.set id .dead).alloc (.cells md (cs.drop o ++ xs))).get i = some u → u.live = true → (H.alloc (.cells md (cs.drop o ++ xs))).get i = some u := by
                            intro i u hu u1
                            rw [AH.get_alloc] at hu ⊢
                            by_cases e : i = H.next
                            · rw [if_pos (show i = (H.set id .dead).next from e)] at hu; rw [if_pos e]; exact hu
                            · rw [if_neg (show ¬ i = (H.set id .dead).next from e)] at hu; rw [if_neg e]
                              rw [AH.get_set] at hu
                              by_cases e2 : i = id
                              · rw [if_pos e2] at hu; simp only [Option.some.injEq] at hu; subst hu; cases u1
                              · rw [if_neg e2] at hu; exact hu
                          refine ⟨hstp.ext, hstp.newd, hstp.next, hstp.keep, fun b hb ho => ?_, fun b hb ho => ?_, hstp.size, hstp.os, hstp.tape, hstp.output⟩
                          · obtain ⟨i, u, hu, u1, u2⟩ := ho
                            exact hstp.own b hb ⟨i, u, sub i u hu (by cases u <;> first | rfl | cases u1), u1, u2⟩
                          · obtain ⟨i, u, hu, u1, u2⟩ := ho
                            exact hstp.live b hb ⟨i, u, sub i u hu u1, u1, u2⟩
                        refine ⟨.slice (some ⟨(ι id).b, (ι id).o + o, none⟩) (len + m) cc, setBlk w (ι id).b (.cells c' e' fr), updI ι H.next ⟨(ι id).b, (ι id).o + o, (ι id).n⟩, addD D H.next, ?_, ?_, hnew, hstp'⟩
                        · rw [e1, append_room (P := P) (ty := ty) h0 h1 hu hu' hd hs l1 l2 hroom]
                          simp only [Addr_add]
                          rw [f1]; rfl
                        · have := RV.sl (ι := updI ι H.next ⟨(ι id).b, (ι id).o + o, (ι id).n⟩) (D := addD D H.next) (s + 1) H.next 0 ⟨(ι id).b, (ι id).o + o, none⟩ (len + m) (len + m) cc (.inr rfl) hroom hroom b3 (.inr ⟨by simp only [updI, if_true]; rfl, by simp only [updI, if_true]; exact hfit⟩)
                          simpa [updI] using this
                      · -- a new row
                        have hld : ldCells H id o (len * (s + 1)) = some (cs.drop o) := by
                          unfold ldCells
                          simp only [hg]
                          rw [if_pos (by omega)]
                          rw [List.take_of_length_le (by simp; omega)]
                        have hkeep : Rel P W0 ι D (H.set id .dead) w := rel_set hR hg hown (by simp [AO.live]) ⟨rfl, rfl, rfl, Nat.le_refl _⟩ (fun _ _ => rfl) trivial
                        have hst : Stp ι D H w ι D (H.set id .dead) w := stp_set hg hown ⟨rfl, rfl, rfl, Nat.le_refl _⟩ (fun _ _ => rfl)
                        obtain ⟨os, p1, p2, p3, p4, p5, _⟩ := newCells_sound (P := P) (es := s + 1) (y := .sl (s + 1) (some (id, o)) len cap) hR.drew (RV.sl (s + 1) id o k len cap cc hdd b1 b2 b3 b4) (m := len) (xs := cs.drop o) (by simp [newCells, hld])
                        have := grown (some k) len cc os (cs.drop o) (H.set id .dead) md hroom hml hb1 p3 p1 (by simp; omega) p5 hkeep rfl hst
                        rw [e1]
                        exact this
                    · cases h
              · cases h
      · cases h
    · cases h
  · cases h

end Ram

/- All operations that call nothing. -/
namespace Ram
open Go
open Go.RowKit (Below Hid)

variable {P : Program} {W0 : World} {ι : Inj} {D : Nat → Prop} {N : Nat} {ds : List Deferred} {env : Env} {a : Act} {w w' : World} {H : AH}

theorem nextS_sound (hR : Rel P W0 ι D H w) {ty : TypeId} {x : Operand} {x' : X} {v : V} {H' : AH} (hx : cX x = some x') (h : aact (.nextS x') env H = some (v, H')) (he : REnv ds ι D N env a) : Act1 P W0 ι D H (Instr.next (a.eval x) true ty) w v H' := by
  simp only [aact] at h
  split at h
  · next id hv =>
    split at h
    · next l pos hg =>
      obtain ⟨e1, hd⟩ := (cX_sound hx hv he).ptr_inv
      obtain ⟨h0, s, hb, hs⟩ := hR.objs _ _ hg
      have hgo := run_getObj (P := P) hb (by intro c e f h; cases h)
      have hsl : (⟨l.toArray⟩ : ByteArray) = s := by
        subst hs; simp
      have hsz : s.size = l.length := by rw [← hsl]; simp [ByteArray.size]
      rw [h0] at e1
      split at h
      · next hp =>
        simp only [Option.some.injEq, Prod.mk.injEq] at h
        obtain ⟨rfl, rfl⟩ := h
        have hso := run_setObj (P := P) (O := .stringIter s (pos + (Utf8.decode s pos).2)) hb (by intro c e f h; cases h)
        rw [hsl]
        refine ⟨.tuple #[.bool true, goInt pos, .int .i32 (Utf8.decode s pos).1], setBlk w (ι id).b (.stringIter s (pos + (Utf8.decode s pos).2)), ι, D, ?_,
          RV.tup _ [.bool true, goInt pos, .int .i32 (Utf8.decode s pos).1] (.cons _ _ _ _ (.b true) (.cons _ _ _ _ (.i _ _) (.cons _ _ _ _ (.i _ _) .nil))), ?_, stp_set hg rfl (setBlk_out _ _ _) (fun b hb => setBlk_other hb)⟩
        · unfold Instr.next
          simp only [e1, Nat.add_zero, Sem.run_bind, hgo, Result.andThen_ok]
          rw [if_pos (by omega)]
          simp only [Sem.run_bind, hso, Result.andThen_ok, Sem.run_pure]
        · exact rel_set hR hg rfl (fun _ => rfl) (setBlk_out _ _ _) (fun b hb => setBlk_other hb) ⟨h0, s, setBlk_same hb, hs⟩
      · next hp =>
        simp only [Option.some.injEq, Prod.mk.injEq] at h
        obtain ⟨rfl, rfl⟩ := h
        refine ⟨.tuple #[.bool false], w, ι, D, ?_, RV.tup _ [.bool false] (.cons _ _ _ _ (.b false) .nil), hR, Stp.refl⟩
        unfold Instr.next
        simp only [e1, Nat.add_zero, Sem.run_bind, hgo, Result.andThen_ok]
        rw [if_neg (by omega)]
        rfl
    · cases h
  · cases h

theorem rangeM_sound (hR : Rel P W0 ι D H w) {t kt et : TypeId} {x : Operand} {x' : X} {v : V} {H' : AH} (hu : P.underlying t = some (.map kt et)) (hx : cX x = some x') (h : aact (.rangeM x') env H = some (v, H')) (he : REnv ds ι D N env a) : Act1 P W0 ι D H (Instr.range t (a.eval x)) w v H' := by
  simp only [aact] at h
  split at h
  · next hv =>
    simp only [Option.some.injEq, Prod.mk.injEq] at h
    obtain ⟨rfl, rfl⟩ := h
    have e := (cX_sound hx hv he).map0_inv
    obtain ⟨r1, r2⟩ := rel_alloc (o := .miter none) (O := .mapIter none 0 #[] 0) (n := 0) (w' := w.alloc (.mapIter none 0 #[] 0)) hR (sameOut_push _ _) rfl ⟨rfl, ⟨0, 0, heap_new w _⟩, fun _ h => by cases h⟩
    refine ⟨.pointer (some ⟨w.heap.size, 0, none⟩), _, _, _, ?_, rv_new, r1, r2⟩
    unfold Instr.range
    simp only [Sem.run_bind, run_underlying hu, Result.andThen_ok, e, Sem.run_pure, run_newObj]
    rfl
  · next id hv =>
    split at h
    · next es hg =>
      simp only [Option.some.injEq, Prod.mk.injEq] at h
      obtain ⟨rfl, rfl⟩ := h
      obtain ⟨e, hd⟩ := (cX_sound hx hv he).map_inv
      obtain ⟨_, ms, clock, hb, _⟩ := hR.objs _ _ hg
      have hgo := run_getObj (P := P) hb (by intro c e f h; cases h)
      have hne : id ≠ H.next := fun e => by have := hR.get_lt _ _ hg; omega
      obtain ⟨r1, r2⟩ := rel_alloc (o := .miter (some id)) (O := .mapIter (some (ι id).b) clock #[] clock) (n := 0) (w' := w.alloc (.mapIter (some (ι id).b) clock #[] clock)) hR (sameOut_push _ _) rfl
        ⟨rfl, ⟨clock, clock, (heap_new w _).trans (by simp [updI, hne])⟩, fun _ h => by cases h; exact .inl hd⟩
      refine ⟨.pointer (some ⟨w.heap.size, 0, none⟩), _, _, _, ?_, rv_new, r1, r2⟩
      unfold Instr.range
      simp only [Sem.run_bind, run_underlying hu, Result.andThen_ok, e, hgo, Sem.run_pure, run_newObj]
      rfl
    · cases h
  · cases h

theorem nextM_sound (hR : Rel P W0 ι D H w) {ty : TypeId} {x : Operand} {x' : X} {v : V} {H' : AH} (hx : cX x = some x') (h : aact (.nextM x') env H = some (v, H')) (he : REnv ds ι D N env a) : Act1 P W0 ι D H (Instr.next (a.eval x) false ty) w v H' := by
  simp only [aact] at h
  split at h
  · next i hv =>
    obtain ⟨e1, hd⟩ := (cX_sound hx hv he).ptr_inv
    split at h
    · next hg =>
      simp only [Option.some.injEq, Prod.mk.injEq] at h
      obtain ⟨rfl, rfl⟩ := h
      obtain ⟨h0, ⟨s, l, hb⟩, _⟩ := hR.objs _ _ hg
      have hgo := run_getObj (P := P) hb (by intro c e f h; cases h)
      rw [h0] at e1
      refine ⟨.tuple #[.bool false], w, ι, D, ?_, RV.tup _ [.bool false] (.cons _ _ _ _ (.b false) .nil), hR, Stp.refl⟩
      unfold Instr.next
      simp only [e1, Nat.add_zero, Sem.run_bind, hgo, Result.andThen_ok]
      rfl
    · next id hg =>
      split at h
      · next hm =>
        simp only [Option.some.injEq, Prod.mk.injEq] at h
        obtain ⟨rfl, rfl⟩ := h
        obtain ⟨h0, ⟨s, l, hb⟩, _⟩ := hR.objs _ _ hg
        obtain ⟨_, ms, clock, hmb, hes⟩ := hR.objs _ _ hm
        have hms : ms = #[] := by
          have := hes.keys.length
          simp at this
          exact Array.eq_empty_of_size_eq_zero (by simpa using this.symm)
        subst hms
        have hgo := run_getObj (P := P) hb (by intro c e f h; cases h)
        have hgm := run_getObj (P := P) hmb (by intro c e f h; cases h)
        rw [h0] at e1
        refine ⟨.tuple #[.bool false], w, ι, D, ?_, RV.tup _ [.bool false] (.cons _ _ _ _ (.b false) .nil), hR, Stp.refl⟩
        unfold Instr.next
        simp only [e1, Nat.add_zero, Sem.run_bind, hgo, Result.andThen_ok, Option.map_some, hgm]
        have f1 : ∀ p : MapEntry → Bool, Array.filter p (#[] : Array MapEntry) = #[] := fun p => by simp
        simp only [f1]
        simp [Question.forced]
      · cases h
    · cases h
  · cases h

/-- An operation of the model that yields a value, or stores and yields none. -/
def Runs (P : Program) (a : Act) (o : Oper) (w : World) (c : Value) (w' : World) : Prop :=
  (execOp a.eval o).run P w = .ok (.value c) w' ∨ ((execOp a.eval o).run P w = .ok .skip w' ∧ c = undef)

theorem runs_v {o : Oper} {s : Sem Value} {c : Value} (he : execOp a.eval o = (do pure (Next.value (← s)))) (h : s.run P w = .ok c w') : Runs P a o w c w' := by
  left; rw [he]; simp only [Sem.run_bind, h, Result.andThen_ok, Sem.run_pure]
theorem runs_u {o : Oper} {s : Sem Unit} (he : execOp a.eval o = (do s; pure Next.skip)) (h : s.run P w = .ok () w') : Runs P a o w undef w' := by
  right; rw [he]; exact ⟨by simp only [Sem.run_bind, h, Result.andThen_ok, Sem.run_pure], rfl⟩
theorem rv_undef : RV ι D (.tup []) undef := RV.tup [] [] .nil

theorem nil0 {t e : TypeId} (h : P.underlying t = some (.slice e)) : (0 = 0 → ∃ e, P.underlying t = some (.slice e)) ∧ (0 = 1 → ∃ k e, P.underlying t = some (.map k e)) ∧ (0 = 2 → ∃ b c e, P.underlying t = some (.func b c e)) :=
  ⟨fun _ => ⟨e, h⟩, fun h => (by cases h), fun h => (by cases h)⟩
theorem nil1 {t k e : TypeId} (h : P.underlying t = some (.map k e)) : (1 = 0 → ∃ e, P.underlying t = some (.slice e)) ∧ (1 = 1 → ∃ k e, P.underlying t = some (.map k e)) ∧ (1 = 2 → ∃ b c e, P.underlying t = some (.func b c e)) :=
  ⟨fun h => (by cases h), fun _ => ⟨k, e, h⟩, fun h => (by cases h)⟩
theorem nil2 {t : TypeId} {b c : Array TypeId} {e : Bool} (h : P.underlying t = some (.func b c e)) : (2 = 0 → ∃ e, P.underlying t = some (.slice e)) ∧ (2 = 1 → ∃ k e, P.underlying t = some (.map k e)) ∧ (2 = 2 → ∃ b c e, P.underlying t = some (.func b c e)) :=
  ⟨fun h => (by cases h), fun h => (by cases h), fun _ => ⟨b, c, e, h⟩⟩

theorem map1 (f : Operand → Value) (x : Operand) : (#[x] : Array Operand).map f = #[f x] := by simp
theorem map2 (f : Operand → Value) (x y : Operand) : (#[x, y] : Array Operand).map f = #[f x, f y] := by simp

theorem cXs_cons {l : List Operand} {x' : X} {r' : List X} (h : cXs l = some (x' :: r')) : ∃ x r, l = x :: r ∧ cX x = some x' ∧ cXs r = some r' := by
  cases l with
  | nil => cases h
  | cons x r =>
    unfold cXs at h
    split at h
    · next y m hy hm =>
      simp only [Option.some.injEq, List.cons.injEq] at h
      obtain ⟨rfl, rfl⟩ := h
      exact ⟨x, r, rfl, hy, hm⟩
    · cases h
theorem cXs_nil {l : List Operand} (h : cXs l = some []) : l = [] := by
  cases l with
  | nil => rfl
  | cons x r => unfold cXs at h; split at h <;> cases h
theorem cXs_one {args : Array Operand} {x' : X} (h : cXs args.toList = some [x']) : ∃ x, args = #[x] ∧ cX x = some x' := by
  obtain ⟨x, r, h1, h2, h3⟩ := cXs_cons h
  have := cXs_nil h3
  subst this
  exact ⟨x, by rw [← Array.toArray_toList (xs := args), h1], h2⟩
theorem cXs_two {args : Array Operand} {x' y' : X} (h : cXs args.toList = some [x', y']) : ∃ x y, args = #[x, y] ∧ cX x = some x' ∧ cX y = some y' := by
  obtain ⟨x, r, h1, h2, h3⟩ := cXs_cons h
  obtain ⟨y, r2, rfl, h4, h5⟩ := cXs_cons h3
  have := cXs_nil h5
  subst this
  exact ⟨x, y, by rw [← Array.toArray_toList (xs := args), h1], h2, h4⟩

/-- A pure operation. -/
theorem pure_sound {o : Oper} {po : PureOp} {v : V} (hc : compOp P o = some (.pure po)) (hv : apure po env = some v) (he : REnv ds ι D N env a) : ∃ c, Runs P a o w c w ∧ RV ι D v c := by
  obtain ⟨dst, op, ty, pos, after, guard⟩ := o
  have yl : ∀ {s : Sem Value}, execOp a.eval ⟨dst, op, ty, pos, after, guard⟩ = (do pure (Next.value (← s))) → Yld P ι D s w v → ∃ c, Runs P a ⟨dst, op, ty, pos, after, guard⟩ w c w ∧ RV ι D v c := by
    intro s h1 ⟨c, h2, h3⟩
    exact ⟨c, runs_v h1 h2, h3⟩
  cases op with
  | move x =>
    simp only [compOp] at hc
    split at hc
    · next y hx =>
      simp only [Option.some.injEq, AOp.pure.injEq] at hc; subst hc
      exact ⟨a.eval x, .inl rfl, cX_sound hx hv he⟩
    · cases hc
  | assign x =>
    simp only [compOp] at hc
    split at hc
    · next y hx =>
      simp only [Option.some.injEq, AOp.pure.injEq] at hc; subst hc
      exact ⟨a.eval x, .inl rfl, cX_sound hx hv he⟩
    · cases hc
  | pick c x y =>
    simp only [compOp] at hc
    split at hc
    · next h1 h2 h3 =>
      simp only [Option.some.injEq, AOp.pure.injEq] at hc; subst hc
      obtain ⟨c', r1, r2⟩ := yld_pick (P := P) (w := w) h1 h2 h3 hv he
      refine ⟨c', .inl ?_, r2⟩
      show ((do pure (Next.value (if ← asBool (a.eval c) then a.eval x else a.eval y)) : Sem Next)).run P w = _
      simp only [Sem.run_bind, Sem.run_pure] at r1 ⊢
      cases hb : (asBool (a.eval c)).run P w with
      | ok q w2 => rw [hb] at r1; simp only [Result.andThen_ok, Result.ok.injEq] at r1 ⊢; exact ⟨by rw [r1.1], r1.2⟩
      | halt q w2 => rw [hb] at r1; cases r1
    · cases hc
  | build t ps =>
    simp only [compOp] at hc
    split at hc
    · next fs zs hu hz =>
      split at hc
      · next pl hpl =>
        split at hc
        · next parts hpt =>
          simp only [Option.some.injEq, AOp.pure.injEq] at hc; subst hc
          exact yl rfl (yld_build_struct hu hz hpl hpt hv he)
        · cases hc
      · cases hc
    · next n e zs hu hz =>
      split at hc
      · next s hs =>
        split at hc
        · next parts hpt =>
          simp only [Option.some.injEq, AOp.pure.injEq] at hc; subst hc
          exact yl rfl (yld_build_array hu hz hs hpt hv he)
        · cases hc
      · cases hc
    · cases hc
  | nilCheck x =>
    simp only [compOp] at hc
    split at hc
    · next y hx =>
      simp only [Option.some.injEq, AOp.pure.injEq] at hc; subst hc
      obtain ⟨c, h1, h2⟩ := yld_nilCheck (P := P) (w := w) hx hv he (o := ⟨dst, .nilCheck x, ty, pos, after, guard⟩) rfl
      exact ⟨c, .inl h1, h2⟩
    · cases hc
  | binOp op t x y yt =>
    simp only [compOp] at hc
    split at hc
    · next x' y' hx hy =>
      unfold compBin at hc
      split at hc
      · simp only [Option.some.injEq, AOp.pure.injEq] at hc; subst hc
        exact yl rfl (yld_bin hx hy hv he)
      · simp only [Option.some.injEq, AOp.pure.injEq] at hc; subst hc
        exact yl rfl (yld_bin hx hy hv he)
      · next hu =>
        split at hc
        · simp only [Option.some.injEq, AOp.pure.injEq] at hc; subst hc
          exact yl rfl (yld_eqB hu rfl hx hy hv he)
        · simp only [Option.some.injEq, AOp.pure.injEq] at hc; subst hc
          exact yl rfl (yld_eqB hu rfl hx hy hv he)
        · cases hc
      · split at hc <;> cases hc
      · next e hu =>
        split at hc
        · simp only [Option.some.injEq, AOp.pure.injEq] at hc; subst hc
          exact yl rfl (yld_isNil (nil0 hu) rfl hx hy hv he)
        · simp only [Option.some.injEq, AOp.pure.injEq] at hc; subst hc
          exact yl rfl (yld_isNil (nil0 hu) rfl hx hy hv he)
        · cases hc
      · next k e hu =>
        split at hc
        · simp only [Option.some.injEq, AOp.pure.injEq] at hc; subst hc
          exact yl rfl (yld_isNil (nil1 hu) rfl hx hy hv he)
        · simp only [Option.some.injEq, AOp.pure.injEq] at hc; subst hc
          exact yl rfl (yld_isNil (nil1 hu) rfl hx hy hv he)
        · cases hc
      · next p q e hu =>
        split at hc
        · simp only [Option.some.injEq, AOp.pure.injEq] at hc; subst hc
          exact yl rfl (yld_isNil (nil2 hu) rfl hx hy hv he)
        · simp only [Option.some.injEq, AOp.pure.injEq] at hc; subst hc
          exact yl rfl (yld_isNil (nil2 hu) rfl hx hy hv he)
        · cases hc
      · split at hc
        · next l hl hg =>
          split at hc
          · simp only [Option.some.injEq, AOp.pure.injEq] at hc; subst hc
            exact yl rfl (yld_eqAgg hl hg rfl hx hy hv he)
          · simp only [Option.some.injEq, AOp.pure.injEq] at hc; subst hc
            exact yl rfl (yld_eqAgg hl hg rfl hx hy hv he)
          · cases hc
        · cases hc
      · cases hc
    · cases hc
  | unOp op t x =>
    simp only [compOp] at hc
    split at hc
    · next y hx =>
      simp only [Option.some.injEq, AOp.pure.injEq] at hc; subst hc
      exact yl rfl (yld_un hx hv he)
    · cases hc
  | convert src dst' x =>
    simp only [compOp] at hc
    split at hc
    · next y hx =>
      unfold compConv at hc
      split at hc
      · next h1 h2 =>
        simp only [Option.some.injEq, AOp.pure.injEq] at hc; subst hc
        exact yl rfl (yld_conv h1 h2 hx hv he)
      · next h1 h2 =>
        simp only [Option.some.injEq, AOp.pure.injEq] at hc; subst hc
        exact yl rfl (yld_mvS h1 h2 hx hv he)
      · split at hc <;> cases hc
      · split at hc <;> cases hc
      · cases hc
    · cases hc
  | makeInterface t x =>
    simp only [compOp] at hc
    split at hc
    · cases hc
    · next y d hne hx hu =>
      simp only [Option.some.injEq, AOp.pure.injEq] at hc; subst hc
      exact yl rfl (yld_mkIface hu (fun ms h => hne ms (by rw [h])) hx hv he)
    · cases hc
  | makeFunc fn xs ys =>
    cases fn with
    | func f =>
      simp only [compOp] at hc
      split at hc
      · next h1 h2 =>
        simp only [Option.some.injEq, AOp.pure.injEq] at hc; subst hc
        exact yl rfl (yld_mkFunc h1 h2 hv he)
      · cases hc
    | _ => cases hc
  | slice t x lo hi mx =>
    simp only [compOp] at hc
    split at hc
    · next x' lo' hi' mx' hx hl hh hm =>
      split at hc
      · next hu =>
        split at hc
        · simp only [Option.some.injEq, AOp.pure.injEq] at hc; subst hc
          rcases cXo_some hm with ⟨rfl, _⟩ | ⟨_, _, _, hbad, _⟩
          · exact yl rfl (yld_slStr hu hx hl hh hv he)
          · cases hbad
        · cases hc
      · next e hu =>
        split at hc
        · next s hs =>
          simp only [Option.some.injEq, AOp.pure.injEq] at hc; subst hc
          rcases cXo_some hm with ⟨rfl, rfl⟩ | ⟨m, m', rfl, rfl, hm'⟩
          · exact yl rfl (yld_slSl hu hs hx hl hh hv he)
          · exact yl rfl (yld_slSl3 hu hs hx hl hh hm' hv he)
        · cases hc
      · split at hc
        · split at hc <;> cases hc
        · cases hc
      · cases hc
    · cases hc
  | fieldAddr t x f =>
    simp only [compOp] at hc
    split at hc
    · next y fs hx hu =>
      split at hc
      · next fd hf =>
        split at hc
        · next n hs =>
          simp only [Option.some.injEq, AOp.pure.injEq] at hc; subst hc
          exact yl rfl (yld_fieldAddr hu hf hs hx hv he)
        · cases hc
      · cases hc
    · cases hc
  | field t x f =>
    simp only [compOp] at hc
    split at hc
    · next y fs hx hu =>
      split at hc
      · next fd hf =>
        split at hc
        · next ag n ha hs =>
          simp only [Option.some.injEq, AOp.pure.injEq] at hc; subst hc
          exact yl rfl (yld_field hu hf ha hs hx hv he)
        · cases hc
      · cases hc
    · cases hc
  | indexAddr t x i =>
    simp only [compOp] at hc
    split at hc
    · next y j e hx hi hu =>
      split at hc
      · next s hs =>
        simp only [Option.some.injEq, AOp.pure.injEq] at hc; subst hc
        exact yl rfl (yld_idxSl hu hs hx hi hv he)
      · cases hc
    · next y j n e hx hi hu =>
      split at hc
      · next s hs =>
        simp only [Option.some.injEq, AOp.pure.injEq] at hc; subst hc
        exact yl rfl (yld_idxArr hu hs hx hi hv he)
      · cases hc
    · cases hc
  | index t x i =>
    simp only [compOp] at hc
    split at hc
    · next y j n e hx hi hu =>
      split at hc
      · next ag s ha hs =>
        simp only [Option.some.injEq, AOp.pure.injEq] at hc; subst hc
        exact yl rfl (yld_idxA hu ha hs hx hi hv he)
      · cases hc
    · next y j hx hi hu =>
      simp only [Option.some.injEq, AOp.pure.injEq] at hc; subst hc
      exact yl rfl (yld_idxS hu hx hi hv he)
    · cases hc
  | typeAssert x xt t ok =>
    cases ok with
    | true =>
      simp only [compOp] at hc
      split at hc
      · cases hc
      · next y d z hne hx hu hz =>
        simp only [Option.some.injEq, AOp.pure.injEq] at hc; subst hc
        exact yl rfl (yld_tassert hu (fun ms h => hne ms (by rw [h])) hz hx hv he)
      · cases hc
    | false => cases hc
  | extract x i =>
    simp only [compOp] at hc
    split at hc
    · next y hx =>
      simp only [Option.some.injEq, AOp.pure.injEq] at hc; subst hc
      exact yl rfl (yld_extract hx hv he)
    · cases hc
  | call c =>
    obtain ⟨callee, args, argTypes⟩ := c
    cases callee with
    | builtin b =>
      simp only [compOp] at hc
      split at hc
      · next xs hxs =>
        have hbi : ∀ {s : Sem Value}, (∀ cs, builtin b argTypes ty cs (args.map a.eval) = (do pure (Next.value (← s)))) → Yld P ι D s w v →
            ∃ c, Runs P a ⟨dst, .call ⟨.builtin b, args, argTypes⟩, ty, pos, after, guard⟩ w c w ∧ RV ι D v c := by
          intro s h1 ⟨c, h2, h3⟩
          refine ⟨c, .inl ?_, h3⟩
          show (do let d ← resolve a.eval ⟨.builtin b, args, argTypes⟩ ty; invoke d.target d.args : Sem Next).run P w = _
          simp only [resolve, Sem.run_bind, Sem.run_pure, Result.andThen_ok, invoke]
          rw [h1]
          simp only [Sem.run_bind, h2, Result.andThen_ok, Sem.run_pure]
        unfold compBuiltin at hc
        split at hc
        · split at hc
          · split at hc
            · split at hc
              · split at hc <;> cases hc
              · cases hc
            · split at hc
              · split at hc <;> cases hc
              · cases hc
            · cases hc
          · cases hc
        · split at hc
          · next _ t x' ht =>
            obtain ⟨x, rfl, hx⟩ := cXs_one hxs
            split at hc
            · next hu =>
              simp only [Option.some.injEq, AOp.pure.injEq] at hc; subst hc
              exact hbi (fun _ => rfl) (by rw [map1]; exact yld_lenS (ty := ty) hu hx hv he ht)
            · next hu =>
              simp only [Option.some.injEq, AOp.pure.injEq] at hc; subst hc
              exact hbi (fun _ => rfl) (by rw [map1]; exact yld_lenSl (ty := ty) hu hx hv he ht)
            · next hu =>
              simp only [Option.some.injEq, AOp.pure.injEq] at hc; subst hc
              exact hbi (fun _ => rfl) (by rw [map1]; exact yld_lenC (ty := ty) (x := x) hu hv ht)
            · cases hc
            · cases hc
          · cases hc
        · split at hc
          · split at hc
            · cases hc
            · split at hc
              · split at hc <;> cases hc
              · cases hc
            · cases hc
          · cases hc
        · split at hc
          · split at hc
            · split at hc <;> cases hc
            · cases hc
          · cases hc
        · split at hc
          · split at hc
            · split at hc <;> cases hc
            · cases hc
          · cases hc
        · simp only [Option.some.injEq, AOp.pure.injEq] at hc; subst hc
          exact hbi (fun _ => rfl) (yld_mxmn (P := P) (w := w) (ts := argTypes) (ty := ty) hxs hv he)
        · simp only [Option.some.injEq, AOp.pure.injEq] at hc; subst hc
          exact hbi (fun _ => rfl) (yld_mxmn (P := P) (w := w) (ts := argTypes) (ty := ty) hxs hv he)
        · cases hc
      · cases hc
    | invoke r m => cases hc
    | value f =>
      cases f with
      | func f => simp only [compOp] at hc; split at hc <;> cases hc
      | tmp t => simp only [compOp] at hc; split at hc <;> cases hc
      | const c => simp only [compOp] at hc; split at hc <;> cases hc
      | global g => simp only [compOp] at hc; split at hc <;> cases hc
  | alloc t => simp only [compOp] at hc; (repeat' (split at hc)) <;> cases hc
  | box t x => simp only [compOp] at hc; split at hc <;> cases hc
  | buildSlice t n ps =>
    simp only [compOp] at hc
    split at hc
    · split at hc
      · split at hc
        · split at hc <;> cases hc
        · cases hc
      · cases hc
    · cases hc
  | load t x => simp only [compOp] at hc; split at hc <;> cases hc
  | store t x y => simp only [compOp] at hc; split at hc <;> cases hc
  | makeMap t r => cases r <;> cases hc
  | makeSlice t l c =>
    simp only [compOp] at hc
    split at hc
    · split at hc
      · split at hc <;> cases hc
      · cases hc
    · cases hc
  | lookup t m k ok =>
    simp only [compOp] at hc
    split at hc
    · split at hc <;> cases hc
    · cases hc
  | mapUpdate t m k x =>
    simp only [compOp] at hc
    split at hc
    · split at hc <;> cases hc
    · cases hc
  | insert t m k x =>
    simp only [compOp] at hc
    split at hc
    · split at hc <;> cases hc
    · cases hc
  | range t x => simp only [compOp] at hc; split at hc <;> cases hc
  | next x b =>
    cases b with
    | true => simp only [compOp] at hc; split at hc <;> cases hc
    | false => simp only [compOp] at hc; split at hc <;> cases hc
  | entry x => simp only [compOp] at hc; split at hc <;> cases hc
  | panic x => simp only [compOp] at hc; split at hc <;> cases hc
  | _ => cases hc

end Ram

/- All operations that call nothing: what reads, what makes, what writes; all together. -/
namespace Ram
open Go
open Go.RowKit (Below Hid)

variable {P : Program} {W0 : World} {ι : Inj} {D : Nat → Prop} {N : Nat} {ds : List Deferred} {env : Env} {a : Act} {w w' : World} {H : AH}

theorem runs_builtin {dst : Option Tmp} {b : Builtin} {args : Array Operand} {ts : Array TypeId} {ty : TypeId} {pos : String} {after : Array Edge} {guard : Option (Nat × Bool)} {s : Sem Value} {c : Value}
    (h1 : ∀ cs, builtin b ts ty cs (args.map a.eval) = (do pure (Next.value (← s)))) (h2 : s.run P w = .ok c w') : Runs P a ⟨dst, .call ⟨.builtin b, args, ts⟩, ty, pos, after, guard⟩ w c w' := by
  refine .inl ?_
  show (do let d ← resolve a.eval ⟨.builtin b, args, ts⟩ ty; invoke d.target d.args : Sem Next).run P w = _
  simp only [resolve, Sem.run_bind, Sem.run_pure, Result.andThen_ok, invoke]
  rw [h1]
  simp only [Sem.run_bind, h2, Result.andThen_ok, Sem.run_pure]

/-- An operation that reads. -/
theorem read_sound (hR : Rel P W0 ι D H w) {o : Oper} {po : ReadOp} {v : V} (hc : compOp P o = some (.read po)) (hv : aread po env H = some v) (he : REnv ds ι D N env a) : ∃ c, Runs P a o w c w ∧ RV ι D v c := by
  obtain ⟨dst, op, ty, pos, after, guard⟩ := o
  have yl : ∀ {s : Sem Value}, execOp a.eval ⟨dst, op, ty, pos, after, guard⟩ = (do pure (Next.value (← s))) → Yld P ι D s w v → ∃ c, Runs P a ⟨dst, op, ty, pos, after, guard⟩ w c w ∧ RV ι D v c := by
    intro s h1 ⟨c, h2, h3⟩
    exact ⟨c, runs_v h1 h2, h3⟩
  cases op with
  | load t x =>
    simp only [compOp] at hc
    split at hc
    · next y n hx ha hs =>
      simp only [Option.some.injEq, AOp.read.injEq] at hc; subst hc
      exact yl rfl (yld_ldN hR ha hs hx hv he)
    · next y n hx ha =>
      simp only [Option.some.injEq, AOp.read.injEq] at hc; subst hc
      exact yl rfl (yld_ld1 hR ha hx hv he)
    · cases hc
  | lookup t m k ok =>
    simp only [compOp] at hc
    split at hc
    · next m' k' kt e hm hk hu =>
      split at hc
      · next ks z h1 h2 =>
        simp only [Option.some.injEq, AOp.read.injEq] at hc; subst hc
        exact yl rfl (yld_lookup hR hu h1 h2 hm hk hv he)
      · cases hc
    · cases hc
  | slice t x lo hi mx =>
    simp only [compOp] at hc
    split at hc
    · next x' lo' hi' mx' hx hl hh hm =>
      split at hc
      · split at hc <;> cases hc
      · split at hc <;> cases hc
      · next n e hu =>
        split at hc
        · next s hs =>
          split at hc
          · next hn =>
            simp only [Option.some.injEq, AOp.read.injEq] at hc; subst hc
            rcases cXo_some hm with ⟨rfl, _⟩ | ⟨_, _, _, hbad, _⟩
            · exact yl rfl (yld_slArr hR hu hs hn hx hl hh hv he)
            · cases hbad
          · cases hc
        · cases hc
      · cases hc
    · cases hc
  | convert src dst' x =>
    simp only [compOp] at hc
    split at hc
    · next y hx =>
      unfold compConv at hc
      split at hc
      · cases hc
      · cases hc
      · split at hc <;> cases hc
      · next e h1 h2 =>
        split at hc
        · next h3 =>
          simp only [Option.some.injEq, AOp.read.injEq] at hc; subst hc
          exact yl rfl (yld_b2s hR h1 h3 h2 hx hv he)
        · cases hc
      · cases hc
    · cases hc
  | binOp op t x y yt =>
    simp only [compOp] at hc
    split at hc
    · next x' y' hx hy =>
      unfold compBin at hc
      split at hc
      · cases hc
      · cases hc
      · split at hc <;> cases hc
      · next e hu =>
        split at hc
        · next n hs =>
          simp only [Option.some.injEq, AOp.read.injEq] at hc; subst hc
          exact yl rfl (yld_peq hR hu hs rfl hx hy hv he)
        · next n hs =>
          simp only [Option.some.injEq, AOp.read.injEq] at hc; subst hc
          exact yl rfl (yld_peq hR hu hs rfl hx hy hv he)
        · cases hc
      · split at hc <;> cases hc
      · split at hc <;> cases hc
      · split at hc <;> cases hc
      · split at hc
        · split at hc <;> cases hc
        · cases hc
      · cases hc
    · cases hc
  | call c =>
    obtain ⟨callee, args, argTypes⟩ := c
    cases callee with
    | builtin b =>
      simp only [compOp] at hc
      split at hc
      · next xs hxs =>
        unfold compBuiltin at hc
        split at hc
        · split at hc
          · split at hc
            · split at hc
              · split at hc <;> cases hc
              · cases hc
            · split at hc
              · split at hc <;> cases hc
              · cases hc
            · cases hc
          · cases hc
        · split at hc
          · next _ t x' ht =>
            obtain ⟨x, rfl, hx⟩ := cXs_one hxs
            split at hc
            · cases hc
            · cases hc
            · cases hc
            · next hu =>
              simp only [Option.some.injEq, AOp.read.injEq] at hc; subst hc
              obtain ⟨c, h2, h3⟩ := yld_lenM (P := P) (ty := ty) hR hu hx hv he ht
              exact ⟨c, runs_builtin (fun _ => rfl) (by rw [map1]; exact h2), h3⟩
            · cases hc
          · cases hc
        · split at hc
          · split at hc
            · cases hc
            · split at hc
              · split at hc <;> cases hc
              · cases hc
            · cases hc
          · cases hc
        · split at hc
          · split at hc
            · split at hc <;> cases hc
            · cases hc
          · cases hc
        · split at hc
          · split at hc
            · split at hc <;> cases hc
            · cases hc
          · cases hc
        · cases hc
        · cases hc
        · cases hc
      · cases hc
    | invoke r m => cases hc
    | value f =>
      cases f with
      | func f => simp only [compOp] at hc; split at hc <;> cases hc
      | tmp t => simp only [compOp] at hc; split at hc <;> cases hc
      | const c => simp only [compOp] at hc; split at hc <;> cases hc
      | global g => simp only [compOp] at hc; split at hc <;> cases hc
  | move x => simp only [compOp] at hc; split at hc <;> cases hc
  | assign x => simp only [compOp] at hc; split at hc <;> cases hc
  | pick c x y => simp only [compOp] at hc; split at hc <;> cases hc
  | build t ps =>
    simp only [compOp] at hc
    split at hc
    · split at hc
      · split at hc <;> cases hc
      · cases hc
    · split at hc
      · split at hc <;> cases hc
      · cases hc
    · cases hc
  | nilCheck x => simp only [compOp] at hc; split at hc <;> cases hc
  | unOp op t x => simp only [compOp] at hc; split at hc <;> cases hc
  | makeInterface t x => simp only [compOp] at hc; split at hc <;> cases hc
  | makeFunc fn xs ys => cases fn <;> first | (simp only [compOp] at hc; split at hc <;> cases hc) | cases hc
  | fieldAddr t x f =>
    simp only [compOp] at hc
    split at hc
    · split at hc
      · split at hc <;> cases hc
      · cases hc
    · cases hc
  | field t x f =>
    simp only [compOp] at hc
    split at hc
    · split at hc
      · split at hc <;> cases hc
      · cases hc
    · cases hc
  | indexAddr t x i =>
    simp only [compOp] at hc
    split at hc
    · split at hc <;> cases hc
    · split at hc <;> cases hc
    · cases hc
  | index t x i =>
    simp only [compOp] at hc
    split at hc
    · split at hc <;> cases hc
    · cases hc
    · cases hc
  | typeAssert x xt t ok =>
    cases ok with
    | true => simp only [compOp] at hc; split at hc <;> cases hc
    | false => cases hc
  | extract x i => simp only [compOp] at hc; split at hc <;> cases hc
  | alloc t => simp only [compOp] at hc; (repeat' (split at hc)) <;> cases hc
  | box t x => simp only [compOp] at hc; split at hc <;> cases hc
  | buildSlice t n ps =>
    simp only [compOp] at hc
    split at hc
    · split at hc
      · split at hc
        · split at hc <;> cases hc
        · cases hc
      · cases hc
    · cases hc
  | store t x y => simp only [compOp] at hc; split at hc <;> cases hc
  | makeMap t r => cases r <;> cases hc
  | makeSlice t l c =>
    simp only [compOp] at hc
    split at hc
    · split at hc
      · split at hc <;> cases hc
      · cases hc
    · cases hc
  | mapUpdate t m k x =>
    simp only [compOp] at hc
    split at hc
    · split at hc <;> cases hc
    · cases hc
  | insert t m k x =>
    simp only [compOp] at hc
    split at hc
    · split at hc <;> cases hc
    · cases hc
  | range t x => simp only [compOp] at hc; split at hc <;> cases hc
  | next x b =>
    cases b with
    | true => simp only [compOp] at hc; split at hc <;> cases hc
    | false => simp only [compOp] at hc; split at hc <;> cases hc
  | entry x => simp only [compOp] at hc; split at hc <;> cases hc
  | panic x => simp only [compOp] at hc; split at hc <;> cases hc
  | _ => cases hc

/-- An operation that makes an object: whatever number it is to have. -/
theorem alloc_sound {o : Oper} {po : AllocOp} {obj : AO} {mk : Nat → V} (hc : compOp P o = some (.alloc po)) (hv : aalloc po env = some (obj, mk)) (he : REnv ds ι D N env a) (w : World) :
    ∃ c w' O n, Runs P a o w c w' ∧ SameOut w w' ∧ w'.heap = w.heap.push O ∧
      ∀ id, ¬ D id → RObj P (updI ι id ⟨w.heap.size, 0, n⟩) (addD D id) w' ⟨w.heap.size, 0, n⟩ obj ∧ RV (updI ι id ⟨w.heap.size, 0, n⟩) (addD D id) (mk id) c := by
  obtain ⟨dst, op, ty, pos, after, guard⟩ := o
  have yl : ∀ {s : Sem Value}, execOp a.eval ⟨dst, op, ty, pos, after, guard⟩ = (do pure (Next.value (← s))) → Mks P ι D s w obj mk → ∃ c w' O n, Runs P a ⟨dst, op, ty, pos, after, guard⟩ w c w' ∧ SameOut w w' ∧ w'.heap = w.heap.push O ∧
      ∀ id, ¬ D id → RObj P (updI ι id ⟨w.heap.size, 0, n⟩) (addD D id) w' ⟨w.heap.size, 0, n⟩ obj ∧ RV (updI ι id ⟨w.heap.size, 0, n⟩) (addD D id) (mk id) c := by
    intro s h1 ⟨c, w', O, n, h2, h3, h4, h5⟩
    exact ⟨c, w', O, n, runs_v h1 h2, h3, h4, h5⟩
  cases op with
  | alloc t =>
    simp only [compOp] at hc
    split at hc
    · next zs hz =>
      split at hc
      · next hb =>
        simp only [Option.some.injEq, AOp.alloc.injEq] at hc; subst hc
        exact yl rfl (mk_newb hz (by simp at hb; exact hb.2) hv)
      · split at hc
        · next h1 =>
          simp only [Option.some.injEq, AOp.alloc.injEq] at hc; subst hc
          exact yl rfl (mk_newz hz h1 hv)
        · cases hc
    · cases hc
  | box t x =>
    simp only [compOp] at hc
    split at hc
    · next y hx =>
      simp only [Option.some.injEq, AOp.alloc.injEq] at hc; subst hc
      exact yl rfl (mk_box hx hv he)
    · cases hc
  | buildSlice t n ps =>
    simp only [compOp] at hc
    split at hc
    · next e hu =>
      split at hc
      · next s zs hs hz =>
        split at hc
        · next parts hp =>
          split at hc
          · next hcond =>
            simp only [Option.some.injEq, AOp.alloc.injEq] at hc; subst hc
            exact yl rfl (mk_bslice hu hs hz hcond.1 hcond.2.1 hcond.2.2.1 hp hv he)
          · cases hc
        · cases hc
      · cases hc
    · cases hc
  | makeMap t r =>
    cases r with
    | none =>
      simp only [compOp, Option.some.injEq, AOp.alloc.injEq] at hc; subst hc
      exact yl rfl (mk_mkmap hv)
    | some r => cases hc
  | makeSlice t l c =>
    simp only [compOp] at hc
    split at hc
    · next e l' c' hu hl hcx =>
      split at hc
      · next s b zs hs hb hz =>
        split at hc
        · next hcond =>
          simp only [Option.some.injEq, AOp.alloc.injEq] at hc; subst hc
          exact yl rfl (mk_mkslice hu hs hb hz hcond.1 hcond.2 hl hcx hv he)
        · cases hc
      · cases hc
    · cases hc
  | range t x =>
    simp only [compOp] at hc
    split at hc
    · next y hx hu =>
      simp only [Option.some.injEq, AOp.alloc.injEq] at hc; subst hc
      exact yl rfl (mk_rangeS hu hx hv he)
    · cases hc
    · cases hc
  | convert src dst' x =>
    simp only [compOp] at hc
    split at hc
    · next y hx =>
      unfold compConv at hc
      split at hc
      · cases hc
      · cases hc
      · next e h1 h2 =>
        split at hc
        · next h3 _ =>
          simp only [Option.some.injEq, AOp.alloc.injEq] at hc; subst hc
          exact yl rfl (mk_s2b h1 h2 h3 hx hv he)
        · cases hc
      · split at hc <;> cases hc
      · cases hc
    · cases hc
  | call c =>
    obtain ⟨callee, args, argTypes⟩ := c
    exfalso
    cases callee with
    | builtin b =>
      simp only [compOp] at hc
      split at hc
      · unfold compBuiltin at hc
        (repeat' (split at hc)) <;> cases hc
      · cases hc
    | invoke r m => cases hc
    | value f => cases f <;> (simp only [compOp] at hc; split at hc <;> cases hc)
  | makeFunc fn xs ys => cases fn <;> first | (simp only [compOp] at hc; split at hc <;> cases hc) | cases hc
  | typeAssert x xt t ok =>
    cases ok with
    | true => simp only [compOp] at hc; split at hc <;> cases hc
    | false => cases hc
  | next x b =>
    cases b with
    | true => simp only [compOp] at hc; split at hc <;> cases hc
    | false => simp only [compOp] at hc; split at hc <;> cases hc
  | _ => exfalso; (simp only [compOp, compBin] at hc) <;> (repeat' (split at hc)) <;> cases hc

/-- An operation that writes. -/
theorem act_sound (hR : Rel P W0 ι D H w) {o : Oper} {po : ActOp} {v : V} {H' : AH} (hc : compOp P o = some (.act po)) (hv : aact po env H = some (v, H')) (he : REnv ds ι D N env a) :
    ∃ c w' ι' D', Runs P a o w c w' ∧ RV ι' D' v c ∧ Rel P W0 ι' D' H' w' ∧ Stp ι D H w ι' D' H' w' := by
  obtain ⟨dst, op, ty, pos, after, guard⟩ := o
  cases op with
  | store t x y =>
    simp only [compOp] at hc
    split at hc
    · next x' y' n hx hy hs =>
      simp only [Option.some.injEq, AOp.act.injEq] at hc; subst hc
      obtain ⟨w', h1, rfl, h2, h3⟩ := st_sound (P := P) hR hs hx hy hv he
      exact ⟨undef, w', ι, D, runs_u rfl h1, rv_undef, h2, h3⟩
    · cases hc
  | mapUpdate t m k x =>
    simp only [compOp] at hc
    split at hc
    · next m' k' x' kt e hm hk hx hu =>
      split at hc
      · next ks hks =>
        simp only [Option.some.injEq, AOp.act.injEq] at hc; subst hc
        obtain ⟨w', h1, rfl, h2, h3⟩ := mapUpd_sound (P := P) hR hu hks hm hk hx hv he
        exact ⟨undef, w', ι, D, runs_u rfl h1, rv_undef, h2, h3⟩
      · cases hc
    · cases hc
  | insert t m k x =>
    simp only [compOp] at hc
    split at hc
    · next m' k' x' kt e hm hk hx hu =>
      split at hc
      · next ks hks =>
        simp only [Option.some.injEq, AOp.act.injEq] at hc; subst hc
        obtain ⟨w', h1, rfl, h2, h3⟩ := mapUpd_sound (P := P) hR hu hks hm hk hx hv he
        exact ⟨undef, w', ι, D, runs_u rfl h1, rv_undef, h2, h3⟩
      · cases hc
    · cases hc
  | next x b =>
    cases b with
    | true =>
      simp only [compOp] at hc
      split at hc
      · next y hx =>
        simp only [Option.some.injEq, AOp.act.injEq] at hc; subst hc
        obtain ⟨c, w', ι', D', h1, h2, h3, h4⟩ := nextS_sound (P := P) (ty := ty) hR hx hv he
        exact ⟨c, w', ι', D', runs_v rfl h1, h2, h3, h4⟩
      · cases hc
    | false =>
      simp only [compOp] at hc
      split at hc
      · next y hx =>
        simp only [Option.some.injEq, AOp.act.injEq] at hc; subst hc
        obtain ⟨c, w', ι', D', h1, h2, h3, h4⟩ := nextM_sound (P := P) (ty := ty) hR hx hv he
        exact ⟨c, w', ι', D', runs_v rfl h1, h2, h3, h4⟩
      · cases hc
  | range t x =>
    simp only [compOp] at hc
    split at hc
    · cases hc
    · next y kt et hx hu =>
      simp only [Option.some.injEq, AOp.act.injEq] at hc; subst hc
      obtain ⟨c, w', ι', D', h1, h2, h3, h4⟩ := rangeM_sound (P := P) hR hu hx hv he
      exact ⟨c, w', ι', D', runs_v rfl h1, h2, h3, h4⟩
    · cases hc
  | entry x =>
    simp only [compOp] at hc
    split at hc
    · simp only [Option.some.injEq, AOp.act.injEq] at hc; subst hc
      cases hv
    · cases hc
  | call c =>
    obtain ⟨callee, args, argTypes⟩ := c
    cases callee with
    | builtin b =>
      simp only [compOp] at hc
      split at hc
      · next xs hxs =>
        unfold compBuiltin at hc
        split at hc
        · split at hc
          · next _ _ t t' x' y' h0 h1 =>
            obtain ⟨x, y, rfl, hx, hy⟩ := cXs_two hxs
            have main : ∀ {e : TypeId} {d' : TypeDesc} {s b : Nat} {zs : List V}, P.underlying t = some (.slice e) → P.underlying t' = some d' → (∀ k, d' ≠ .int k) → sizeT P e = some (s + 1) → bytesT P e = some (b + 1) → zeroT P e = some zs → zs.length = s + 1 →
                aact (.append (s + 1) (b + 1) x' y') env H = some (v, H') → ∃ c w' ι' D', Runs P a ⟨dst, .call ⟨.builtin .append, #[x, y], argTypes⟩, ty, pos, after, guard⟩ w c w' ∧ RV ι' D' v c ∧ Rel P W0 ι' D' H' w' ∧ Stp ι D H w ι' D' H' w' := by
              intro e d' s b zs g1 g2 g3 g4 g5 g6 g7 g8
              obtain ⟨z, z1, z2, z3⟩ := run_zeroValue (ι := ι) (D := D) g6 w
              have hzs : z.cells.size = s + 1 := by have := z2.length; simp only [Array.length_toList] at this; omega
              obtain ⟨c, w', ι', D', r1, r2, r3, r4⟩ := append_sound (P := P) (ty := ty) hR h0 h1 g1 g2 g3 g4 g5 ⟨z, z3, hzs⟩ hx hy g8 he
              exact ⟨c, w', ι', D', runs_builtin (fun _ => rfl) (by rw [map2]; exact r1), r2, r3, r4⟩
            split at hc
            · next e e' hu hu' =>
              split at hc
              · next s b zs g4 g5 g6 =>
                split at hc
                · next g7 =>
                  simp only [Option.some.injEq, AOp.act.injEq] at hc; subst hc
                  exact main hu hu' (by intro k h; cases h) g4 g5 g6 g7 hv
                · cases hc
              · cases hc
            · next e hu hu' =>
              split at hc
              · next s b zs g4 g5 g6 =>
                split at hc
                · next g7 =>
                  simp only [Option.some.injEq, AOp.act.injEq] at hc; subst hc
                  exact main hu hu' (by intro k h; cases h) g4 g5 g6 g7 hv
                · cases hc
              · cases hc
            · cases hc
          · cases hc
        · exfalso; (repeat' (split at hc)) <;> cases hc
        · split at hc
          · next _ t x' ht =>
            obtain ⟨x, rfl, hx⟩ := cXs_one hxs
            split at hc
            · next hu =>
              simp only [Option.some.injEq, AOp.act.injEq] at hc; subst hc
              obtain ⟨w', h1, rfl, h2, h3⟩ := clearM_sound (P := P) (ty := ty) hR ht hu hx hv he
              exact ⟨_, w', ι, D, runs_builtin (s := Builtin.clear_ argTypes ty #[a.eval x]) (fun _ => by rw [map1]; rfl) h1, rv_undef, h2, h3⟩
            · next e hu =>
              split at hc
              · next z zs hz =>
                split at hc
                · next h1 =>
                  simp only [Option.some.injEq, AOp.act.injEq] at hc; subst hc
                  obtain ⟨w', g1, rfl, h2, h3⟩ := clearSl_sound (P := P) (ty := ty) hR ht hu hz rfl h1 hx hv he
                  exact ⟨_, w', ι, D, runs_builtin (s := Builtin.clear_ argTypes ty #[a.eval x]) (fun _ => by rw [map1]; rfl) g1, rv_undef, h2, h3⟩
                · cases hc
              · cases hc
            · cases hc
          · cases hc
        · split at hc
          · next _ t x' y' ht =>
            obtain ⟨x, y, rfl, hx, hy⟩ := cXs_two hxs
            split at hc
            · next e hu =>
              split at hc
              · next s hs =>
                simp only [Option.some.injEq, AOp.act.injEq] at hc; subst hc
                obtain ⟨c, w', h1, h2, h3, h4⟩ := copy_sound (P := P) (ty := ty) hR ht hu hs hx hy hv he
                exact ⟨c, w', ι, D, runs_builtin (s := Builtin.copy_ argTypes ty #[a.eval x, a.eval y]) (fun _ => by rw [map2]; rfl) h1, h2, h3, h4⟩
              · cases hc
            · cases hc
          · cases hc
        · split at hc
          · next _ t x' y' ht =>
            obtain ⟨x, y, rfl, hx, hy⟩ := cXs_two hxs
            split at hc
            · next kt e hu =>
              split at hc
              · next ks hks =>
                simp only [Option.some.injEq, AOp.act.injEq] at hc; subst hc
                obtain ⟨w', h1, rfl, h2, h3⟩ := del_sound (P := P) (ty := ty) hR ht hu hks hx hy hv he
                exact ⟨_, w', ι, D, runs_builtin (s := Builtin.delete_ argTypes ty #[a.eval x, a.eval y]) (fun _ => by rw [map2]; rfl) h1, rv_undef, h2, h3⟩
              · cases hc
            · cases hc
          · cases hc
        · cases hc
        · cases hc
        · cases hc
      · cases hc
    | invoke r m => cases hc
    | value f =>
      cases f with
      | func f => simp only [compOp] at hc; split at hc <;> cases hc
      | tmp t => simp only [compOp] at hc; split at hc <;> cases hc
      | const c => simp only [compOp] at hc; split at hc <;> cases hc
      | global g => simp only [compOp] at hc; split at hc <;> cases hc
  | convert src dst' x =>
    simp only [compOp] at hc
    split at hc
    · unfold compConv at hc
      exfalso; (repeat' (split at hc)) <;> cases hc
    · cases hc
  | makeMap t r => cases r <;> cases hc
  | makeFunc fn xs ys => cases fn <;> first | (simp only [compOp] at hc; split at hc <;> cases hc) | cases hc
  | typeAssert x xt t ok =>
    cases ok with
    | true => simp only [compOp] at hc; split at hc <;> cases hc
    | false => cases hc
  | _ => exfalso; (simp only [compOp, compBin] at hc) <;> (repeat' (split at hc)) <;> cases hc

end Ram

/- Calls, regions in the order of the text, and control: the abstract machine's rules, each true of the model. -/
namespace Ram
open Go
open Go.RowKit (Below Hid)

/-- How a call ends. -/
inductive AEnd where
  | ret (v : V)
  | pan (v : V)
/-- How a piece of code is left. -/
inductive AExit where
  | normal
  | exit (id : Nat)
  | ret
  | pan (v : V)

def chainOf (c : Value) : List PanicEntry := [{ v := c, recovered := false }]

def REnd (ι : Inj) (D : Nat → Prop) : AEnd → Ending → Prop
  | .ret v, e => ∃ c, e = .returned c ∧ RV ι D v c
  | .pan v, e => ∃ c, e = .panicked (chainOf c) ∧ RV ι D v c
def RExit (ι : Inj) (D : Nat → Prop) : AExit → Exit → Prop
  | .normal, e => e = .normal
  | .exit id, e => e = .exit id
  | .ret, e => e = .ret
  | .pan v, e => ∃ c, e = .panic (chainOf c) ∧ RV ι D v c

/-- A function that has a body. -/
def HasBody (P : Program) (f : FuncId) : Prop := ∃ fn, P.funcs[f]? = some fn ∧ (fn.name == "runtime.NumGoroutine") = false ∧ fn.body.isNone = false

/-- A call: in whatever memory that stands for the heap H, with whatever arguments that stand for these: it ends as R says. -/
def ACalls (P : Program) (W0 : World) (f : FuncId) (args : List V) (H : AH) (R : AEnd → AH → Prop) : Prop :=
  HasBody P f ∧ ∀ ι D w cs, RVs ι D args cs → Rel P W0 ι D H w →
    Calls P f cs.toArray w fun e w' => ∃ ae ι' D' H', R ae H' ∧ REnd ι' D' ae e ∧ Rel P W0 ι' D' H' w' ∧ Stp ι D H w ι' D' H' w'

/-- A call of a loop's yield: the round ends as R says. -/
def AYield (P : Program) (W0 : World) (n : Nat) (args : List V) (H : AH) (R : AEnd → AH → Prop) : Prop :=
  ∀ ι D w cs, RVs ι D args cs → Rel P W0 ι D H w → D n →
    ∃ r : Loop, w.heap[(ι n).b]? = some (.loop r) ∧ cs.length = r.params.size ∧
      RoundIn Fence.wide 0 P (ι n).b r.fn ((r.params.zip cs.toArray).foldl (fun tmps (t, a) => tmps.setIfInBounds t a) r.tmps) r.assign r.body w
        fun e w' => ∃ ae ι' D' H', R ae H' ∧ REnd ι' D' ae e ∧ Rel P W0 ι' D' H' w' ∧ Stp ι D H w ι' D' H' w'

theorem AYield.mono {P : Program} {W0 : World} {n : Nat} {args : List V} {H : AH} {R R' : AEnd → AH → Prop} (h : AYield P W0 n args H R) (hr : ∀ e H', R e H' → R' e H') : AYield P W0 n args H R' :=
  fun ι D w cs h1 h2 h3 => let ⟨r, g1, g2, g3⟩ := h ι D w cs h1 h2 h3; ⟨r, g1, g2, g3.mono fun _ _ ⟨ae, ι', D', H', k1, k2⟩ => ⟨ae, ι', D', H', hr _ _ k1, k2⟩⟩

theorem ACalls.mono {P : Program} {W0 : World} {f : FuncId} {args : List V} {H : AH} {R R' : AEnd → AH → Prop} (h : ACalls P W0 f args H R) (hr : ∀ e H', R e H' → R' e H') : ACalls P W0 f args H R' :=
  ⟨h.1, fun ι D w cs h1 h2 => (h.2 ι D w cs h1 h2).mono fun _ _ ⟨ae, ι', D', H', g1, g2⟩ => ⟨ae, ι', D', H', hr _ _ g1, g2⟩⟩

structure AOper where
  dst : Option Nat
  op : AOp
  guard : Option (Nat × Bool)

def putE (env : Env) : Option Nat → V → Env
  | some d, v => env.set d v
  | none, _ => env

/-- Is an operation wanted? -/
def guardOk (env : Env) : Option (Nat × Bool) → Option Bool
  | none => some true
  | some (d, want) => match env.get d with
    | some (.b x) => some (x == want)
    | some (.tup []) => some false
    | _ => none

section
variable (P : Program) (W0 : World)

/-- What is to be shown behind a call. -/
def after (Q : AExit → Env → AH → Prop) (K : V → AH → Prop) : AEnd → AH → Prop
  | .ret v, H => K v H
  | .pan v, H => Q (.pan v) .leaf H

/-- One operation, in the order of the text. -/
def aop1 (Q : AExit → Env → AH → Prop) (op : AOp) (env : Env) (H : AH) (K : V → AH → Prop) : Prop :=
  match op with
  | .call f xs => match evs env xs with
    | some vs => ACalls P W0 f vs H (after Q K)
    | none => False
  | .callV g xs => match g.ev env, evs env xs with
    | some (.f (.func f) as bs), some vs => ACalls P W0 f (as ++ vs ++ bs) H (after Q K)
    | some (.f (.yield n) [] []), some vs => AYield P W0 n vs H (after Q K)
    | _, _ => False
  | .pan x => match x.ev env with
    | some (.ifc t v) => Q (.pan (.ifc t v)) .leaf H
    | _ => False
  | .pure o => match apure o env with
    | some v => K v H
    | none => False
  | .read o => match aread o env H with
    | some v => K v H
    | none => False
  | .alloc o => match aalloc o env with
    | some (obj, mk) => K (mk H.next) (H.alloc obj)
    | none => False
  | .act o => match aact o env H with
    | some (v, H') => K v H'
    | none => False

def aops (Q : AExit → Env → AH → Prop) : List AOper → Env → AH → Prop
  | [], env, H => Q .normal env H
  | o :: r, env, H => match guardOk env o.guard with
    | some true => aop1 P W0 Q o.op env H fun v H' => aops Q r (putE env o.dst v) H'
    | some false => aops Q r (putE env o.dst (.tup [])) H
    | none => False
end

def dstOk (N : Nat) : Option Nat → Bool
  | some d => decide (d < N)
  | none => true

/-- An operation compiled, among those of its region. -/
def compOper (P : Program) (N : Nat) (ops : Array Oper) (o : Oper) : Option AOper :=
  match compOp P o with
  | some op =>
    if dstOk N o.dst then
      match o.guard with
      | none => some ⟨o.dst, op, none⟩
      | some (j, want) => match (ops[j]?).bind (·.dst) with
        | some d => some ⟨o.dst, op, some (d, want)⟩
        | none => none
    else none
  | none => none
def compOpers (P : Program) (N : Nat) (ops : Array Oper) : List Oper → Option (List AOper)
  | [] => some []
  | o :: r => match compOper P N ops o, compOpers P N ops r with
    | some x, some l => some (x :: l)
    | _, _ => none

variable {P : Program} {W0 : World} {ι ι' : Inj} {D D' : Nat → Prop} {N : Nat} {ds : List Deferred} {env : Env} {a : Act} {w w' : World} {H : AH}

/-- What holds behind a piece of code: of the model, out of the abstract machine. -/
def Lift (P : Program) (ds : List Deferred) (W0 : World) (N : Nat) (Q : AExit → Env → AH → Prop) (ι : Inj) (D : Nat → Prop) (H : AH) (w : World) : Exit → Act → World → Prop := fun e a' w' =>
  ∃ ae ι' D' env' H', Q ae env' H' ∧ RExit ι' D' ae e ∧ REnv ds ι' D' N env' a' ∧ Rel P W0 ι' D' H' w' ∧ Stp ι D H w ι' D' H' w'

theorem Lift.back {Q : AExit → Env → AH → Prop} {ι₁ ι₂ : Inj} {D₁ D₂ : Nat → Prop} {H₁ H₂ : AH} {w₁ w₂ : World} (hs : Stp ι₁ D₁ H₁ w₁ ι₂ D₂ H₂ w₂) {e : Exit} {a' : Act} {w' : World} (h : Lift P ds W0 N Q ι₂ D₂ H₂ w₂ e a' w') : Lift P ds W0 N Q ι₁ D₁ H₁ w₁ e a' w' := by
  obtain ⟨ae, ι', D', env', H', h1, h2, h3, h4, h5⟩ := h
  exact ⟨ae, ι', D', env', H', h1, h2, h3, h4, hs.trans h5⟩

theorem REnv.leaf (h : REnv ds ι D N env a) : REnv ds ι' D' N .leaf a := ⟨h.size, h.defers, fun t v hv => by cases hv⟩

theorem REnv.putE (he : REnv ds ι D N env a) {dst : Option Nat} {v : V} {c : Value} (hd : dstOk N dst = true) (hv : RV ι D v c) : REnv ds ι D N (putE env dst v) (a.put dst c) := by
  cases dst with
  | none => exact he
  | some d => exact he.put (by simpa [dstOk] using hd) hv

theorem guard_sound {ops : Array Oper} {o : Oper} {g : Option (Nat × Bool)} {b : Bool} (he : REnv ds ι D N env a) (hg : (o.guard = none ∧ g = none) ∨ ∃ j want d, o.guard = some (j, want) ∧ g = some (d, want) ∧ (ops[j]?).bind (·.dst) = some d)
    (h : guardOk env g = some b) : Region.wanted o (yielded ops a.tmps) = b := by
  rcases hg with ⟨h1, rfl⟩ | ⟨j, want, d, h1, rfl, h3⟩
  · simp only [guardOk, Option.some.injEq] at h; subst h
    simp [Region.wanted, h1]
  · simp only [guardOk] at h
    split at h
    · next x hx =>
      simp only [Option.some.injEq] at h; subst h
      obtain ⟨c, c1, c2⟩ := he.regs _ _ hx
      have := c2.bool_inv; subst this
      simp only [Region.wanted, h1, yielded, h3, Option.bind_some, c1]
      cases x <;> cases want <;> rfl
    · next hx =>
      simp only [Option.some.injEq] at h; subst h
      obtain ⟨c, c1, c2⟩ := he.regs _ _ hx
      obtain ⟨ds, rfl, _⟩ := c2.tup_inv
      simp only [Region.wanted, h1, yielded, h3, Option.bind_some, c1]
      rfl
    · cases h

theorem compOper_inv {ops : Array Oper} {o : Oper} {x : AOper} (h : compOper P N ops o = some x) : compOp P o = some x.op ∧ x.dst = o.dst ∧ dstOk N o.dst = true ∧
    ((o.guard = none ∧ x.guard = none) ∨ ∃ j want d, o.guard = some (j, want) ∧ x.guard = some (d, want) ∧ (ops[j]?).bind (·.dst) = some d) := by
  unfold compOper at h
  split at h
  · next op hop =>
    split at h
    · next hd =>
      split at h
      · next hg => simp only [Option.some.injEq] at h; subst h; exact ⟨hop, rfl, hd, .inl ⟨hg, rfl⟩⟩
      · next j want hg =>
        split at h
        · next d hj => simp only [Option.some.injEq] at h; subst h; exact ⟨hop, rfl, hd, .inr ⟨j, want, d, hg, rfl, hj⟩⟩
        · cases h
    · cases h
  · cases h

theorem run_call {f : FuncId} {args : Array Value} (hb : HasBody P f) : (callFunc f args).run P w = .ok (.enter f args) w := by
  obtain ⟨fn, h1, h2, h3⟩ := hb
  unfold callFunc
  simp only [Sem.run_bind, run_program, Result.andThen_ok, h1]
  simp only [h2, h3, Bool.false_eq_true, if_false, Sem.run_pure]

theorem call_inv {o : Oper} {f : FuncId} {xs : List X} (hc : compOp P o = some (.call f xs)) : ∃ args ts, o.op = .call ⟨.value (.func f), args, ts⟩ ∧ cXs args.toList = some xs := by
  obtain ⟨dst, op, ty, pos, aft, guard⟩ := o
  cases op with
  | call c =>
    obtain ⟨callee, args, ts⟩ := c
    cases callee with
    | builtin b =>
      exfalso
      simp only [compOp] at hc
      split at hc
      · unfold compBuiltin at hc
        (repeat' (split at hc)) <;> cases hc
      · cases hc
    | invoke r m => cases hc
    | value g =>
      cases g with
      | func g =>
        simp only [compOp] at hc
        split at hc
        · next l hl => simp only [Option.some.injEq, AOp.call.injEq] at hc; obtain ⟨rfl, rfl⟩ := hc; exact ⟨args, ts, rfl, hl⟩
        · cases hc
      | tmp t => simp only [compOp] at hc; split at hc <;> cases hc
      | const c => simp only [compOp] at hc; split at hc <;> cases hc
      | global g => simp only [compOp] at hc; split at hc <;> cases hc
  | makeFunc fn xs ys => cases fn <;> first | (simp only [compOp] at hc; split at hc <;> cases hc) | cases hc
  | typeAssert x xt t ok =>
    cases ok with
    | true => simp only [compOp] at hc; split at hc <;> cases hc
    | false => cases hc
  | next x b =>
    cases b with
    | true => simp only [compOp] at hc; split at hc <;> cases hc
    | false => simp only [compOp] at hc; split at hc <;> cases hc
  | entry x => simp only [compOp] at hc; split at hc <;> cases hc
  | makeMap t r => cases r <;> cases hc
  | convert src dst' x =>
    simp only [compOp] at hc
    split at hc
    · unfold compConv at hc
      exfalso; (repeat' (split at hc)) <;> cases hc
    · cases hc
  | _ => exfalso; (simp only [compOp, compBin] at hc) <;> (repeat' (split at hc)) <;> cases hc

theorem callV_inv {o : Oper} {g : X} {xs : List X} (hc : compOp P o = some (.callV g xs)) : ∃ q args ts, o.op = .call ⟨.value q, args, ts⟩ ∧ cX q = some g ∧ cXs args.toList = some xs := by
  obtain ⟨dst, op, ty, pos, aft, guard⟩ := o
  cases op with
  | call c =>
    obtain ⟨callee, args, ts⟩ := c
    cases callee with
    | builtin b =>
      exfalso
      simp only [compOp] at hc
      split at hc
      · unfold compBuiltin at hc
        (repeat' (split at hc)) <;> cases hc
      · cases hc
    | invoke r m => cases hc
    | value q =>
      cases q with
      | func g => simp only [compOp] at hc; split at hc <;> cases hc
      | tmp t =>
        simp only [compOp] at hc
        split at hc
        · next h1 h2 => simp only [Option.some.injEq, AOp.callV.injEq] at hc; obtain ⟨rfl, rfl⟩ := hc; exact ⟨_, args, ts, rfl, h1, h2⟩
        · cases hc
      | const c =>
        simp only [compOp] at hc
        split at hc
        · next h1 h2 => simp only [Option.some.injEq, AOp.callV.injEq] at hc; obtain ⟨rfl, rfl⟩ := hc; exact ⟨_, args, ts, rfl, h1, h2⟩
        · cases hc
      | global g =>
        simp only [compOp] at hc
        split at hc
        · next h1 h2 => cases h1
        · cases hc
  | makeFunc fn xs ys => cases fn <;> first | (simp only [compOp] at hc; split at hc <;> cases hc) | cases hc
  | typeAssert x xt t ok =>
    cases ok with
    | true => simp only [compOp] at hc; split at hc <;> cases hc
    | false => cases hc
  | next x b =>
    cases b with
    | true => simp only [compOp] at hc; split at hc <;> cases hc
    | false => simp only [compOp] at hc; split at hc <;> cases hc
  | entry x => simp only [compOp] at hc; split at hc <;> cases hc
  | makeMap t r => cases r <;> cases hc
  | convert src dst' x =>
    simp only [compOp] at hc
    split at hc
    · unfold compConv at hc
      exfalso; (repeat' (split at hc)) <;> cases hc
    · cases hc
  | _ => exfalso; (simp only [compOp, compBin] at hc) <;> (repeat' (split at hc)) <;> cases hc

theorem pan_inv {o : Oper} {x : X} (hc : compOp P o = some (.pan x)) : ∃ q, o.op = .panic q ∧ cX q = some x := by
  obtain ⟨dst, op, ty, pos, aft, guard⟩ := o
  cases op with
  | panic q =>
    simp only [compOp] at hc
    split at hc
    · next h => simp only [Option.some.injEq, AOp.pan.injEq] at hc; subst hc; exact ⟨q, rfl, h⟩
    · cases hc
  | call c =>
    obtain ⟨callee, args, ts⟩ := c
    exfalso
    cases callee with
    | builtin b =>
      simp only [compOp] at hc
      split at hc
      · unfold compBuiltin at hc
        (repeat' (split at hc)) <;> cases hc
      · cases hc
    | invoke r m => cases hc
    | value f => cases f <;> (simp only [compOp] at hc; split at hc <;> cases hc)
  | makeFunc fn xs ys => cases fn <;> first | (simp only [compOp] at hc; split at hc <;> cases hc) | cases hc
  | typeAssert x xt t ok =>
    cases ok with
    | true => simp only [compOp] at hc; split at hc <;> cases hc
    | false => cases hc
  | next x b =>
    cases b with
    | true => simp only [compOp] at hc; split at hc <;> cases hc
    | false => simp only [compOp] at hc; split at hc <;> cases hc
  | entry x => simp only [compOp] at hc; split at hc <;> cases hc
  | makeMap t r => cases r <;> cases hc
  | convert src dst' x =>
    simp only [compOp] at hc
    split at hc
    · unfold compConv at hc
      exfalso; (repeat' (split at hc)) <;> cases hc
    · cases hc
  | _ => exfalso; (simp only [compOp, compBin] at hc) <;> (repeat' (split at hc)) <;> cases hc

/-- The fence that keeps nothing out, of activations of functions or of rounds. -/
def Fw (ro : Option Nat) : Fence := { Fence.wide with round := ro }

theorem fw_calls {ro : Option Nat} {n : Nat} {f : FuncId} {args : Array Value} {R : Ending → World → Prop} (h : Calls P f args w R) : CallsIn (Fw ro) n P f args w R := callsIn_wide.2 h
theorem fw_calls' {ro : Option Nat} {n : Nat} {f : FuncId} {args : Array Value} {R : Ending → World → Prop} (h : CallsIn (Fw ro) n P f args w R) : Calls P f args w R := callsIn_wide.1 h

theorem comp_no_defer {o : Oper} {op : AOp} (hc : compOp P o = some op) : ∀ c, o.op ≠ .defer c := by
  intro c e
  obtain ⟨dst, p, ty, pos, aft, guard⟩ := o
  simp only at e; subst e
  simp only [compOp] at hc
  cases hc

theorem fw_op {ro : Option Nat} {o : Oper} {op : AOp} {next : Act → World → Prop} {Q' : Exit → Act → World → Prop} (hc : compOp P o = some op) (h : o.uponIn (Fw ro) 0 P a next Q' ((execOp a.eval o).run P w)) : o.wpIn (Fw ro) 0 P a w next Q' :=
  ⟨fun _ _ => trivial, by rw [Oper.semAt_eq _ _ _ (comp_no_defer hc)]; exact h⟩

/-- A call's operation, out of what is shown of the call. -/
theorem call_wp {f : FuncId} {o : Oper} {vs : List V} {cs : List Value} {Q : AExit → Env → AH → Prop} {K : V → AH → Prop} {next : Act → World → Prop} {Q' : Exit → Act → World → Prop} {op : AOp} {ro : Option Nat} (hop : compOp P o = some op)
    (hrun : (execOp a.eval o).run P w = .ok (.enter f cs.toArray) w) (hc : ACalls P W0 f vs H (after Q K)) (hv : RVs ι D vs cs) (hR : Rel P W0 ι D H w) (he : REnv ds ι D N env a)
    (hnext : ∀ v c ι' D' H' w', K v H' → RV ι' D' v c → Rel P W0 ι' D' H' w' → Stp ι D H w ι' D' H' w' → next (a.put o.dst c) w')
    (hpan : ∀ e a' w', Lift P ds W0 N Q ι D H w e a' w' → Q' e a' w') : o.wpIn (Fw ro) 0 P a w next Q' := by
  refine fw_op hop ?_
  rw [hrun]
  simp only [Oper.uponIn_enter]
  refine ⟨fun h => (by cases h), fw_calls ((hc.2 ι D w cs hv hR).mono fun e w' ⟨ae, ι', D', H', h1, h2, h3, h4⟩ => ?_)⟩
  cases ae with
  | ret v =>
    obtain ⟨c, rfl, r⟩ := h2
    exact hnext v c ι' D' H' w' h1 r h3 h4
  | pan v =>
    obtain ⟨c, rfl, r⟩ := h2
    exact hpan _ _ _ ⟨.pan v, ι', D', .leaf, H', h1, ⟨c, rfl, r⟩, he.leaf, h3, h4⟩

/-- One operation. -/
theorem op_wp {ro : Option Nat} {o : Oper} {op : AOp} {Q : AExit → Env → AH → Prop} {K : V → AH → Prop} {next : Act → World → Prop} {Q' : Exit → Act → World → Prop} (hc : compOp P o = some op) (h : aop1 P W0 Q op env H K) (he : REnv ds ι D N env a) (hR : Rel P W0 ι D H w)
    (hnext : ∀ v c ι' D' H' w', K v H' → RV ι' D' v c → Rel P W0 ι' D' H' w' → Stp ι D H w ι' D' H' w' → next (a.put o.dst c) w')
    (hpan : ∀ e a' w', Lift P ds W0 N Q ι D H w e a' w' → Q' e a' w') : o.wpIn (Fw ro) 0 P a w next Q' := by
  have runs : ∀ c w', Runs P a o w c w' → next (a.put o.dst c) w' → o.wpIn (Fw ro) 0 P a w next Q' := by
    intro c w' hr hn
    refine fw_op hc ?_
    rcases hr with hr | ⟨hr, rfl⟩
    · rw [hr]; exact hn
    · rw [hr]; exact hn
  cases op with
  | pure po =>
    simp only [aop1] at h
    split at h
    · next v hv =>
      obtain ⟨c, h1, h2⟩ := pure_sound (w := w) hc hv he
      exact runs c w h1 (hnext v c ι D H w h h2 hR Stp.refl)
    · exact h.elim
  | read po =>
    simp only [aop1] at h
    split at h
    · next v hv =>
      obtain ⟨c, h1, h2⟩ := read_sound hR hc hv he
      exact runs c w h1 (hnext v c ι D H w h h2 hR Stp.refl)
    · exact h.elim
  | alloc po =>
    simp only [aop1] at h
    split at h
    · next obj mk hv =>
      obtain ⟨c, w', O, n, h1, h2, h3, h4⟩ := alloc_sound hc hv he w
      obtain ⟨g1, g2⟩ := h4 H.next hR.fresh
      obtain ⟨k1, k2⟩ := rel_alloc hR h2 h3 g1
      exact runs c w' h1 (hnext _ c _ _ _ w' h g2 k1 k2)
    · exact h.elim
  | act po =>
    simp only [aop1] at h
    split at h
    · next v H' hv =>
      obtain ⟨c, w', ι', D', h1, h2, h3, h4⟩ := act_sound hR hc hv he
      exact runs c w' h1 (hnext v c ι' D' H' w' h h2 h3 h4)
    · exact h.elim
  | call f xs =>
    simp only [aop1] at h
    split at h
    · next vs hvs =>
      obtain ⟨args, ts, ho, hxs⟩ := call_inv hc
      have hr := cXs_sound he hxs hvs
      refine call_wp (N := N) hc ?_ h hr hR he hnext hpan
      unfold execOp
      simp only [ho, resolve, Deferred.ofValue, Act.eval, Sem.run_bind, Sem.run_pure, Result.andThen_ok, invoke]
      rw [run_call h.1]
      congr 2
      apply Array.ext'; simp
    · exact h.elim
  | callV g xs =>
    simp only [aop1] at h
    split at h
    · next f as bs vs hg hvs =>
      obtain ⟨q, args, ts, ho, hq, hxs⟩ := callV_inv hc
      obtain ⟨cs, ds, e, r1, r2⟩ := (cX_sound hq hg he).f_inv
      have hr := cXs_sound he hxs hvs
      refine call_wp (N := N) (cs := cs ++ args.toList.map a.eval ++ ds) hc ?_ h ((r1.append hr).append r2) hR he hnext hpan
      unfold execOp
      simp only [ho, resolve, e, Deferred.ofValue, Sem.run_bind, Sem.run_pure, Result.andThen_ok, invoke]
      rw [run_call h.1]
      congr 2
      apply Array.ext'; simp
    · next n vs hg hvs =>
      obtain ⟨q, args, ts, ho, hq, hxs⟩ := callV_inv hc
      obtain ⟨e, hdn⟩ := (cX_sound hq hg he).y_inv
      have hr := cXs_sound he hxs hvs
      obtain ⟨r, g1, g2, g3⟩ := h ι D w _ hr hR hdn
      have hrun : (execOp a.eval o).run P w = .ok (.round (ι n).b r.fn ((r.params.zip (args.toList.map a.eval).toArray).foldl (fun tmps (t, a) => tmps.setIfInBounds t a) r.tmps) r.assign r.body) w := by
        unfold execOp
        simp only [ho, resolve, e, Deferred.ofValue, Sem.run_bind, Sem.run_pure, Result.andThen_ok, invoke]
        rw [← run_yield (P := P) (args := (args.toList.map a.eval).toArray) g1 (by simpa using g2)]
        congr 2
        apply Array.ext'; simp
      refine fw_op hc ?_
      rw [hrun]
      simp only [Oper.uponIn_round]
      refine ⟨fun h => (by cases h), RoundIn.mono (show RoundIn (Fw ro) 0 P _ _ _ _ _ w _ from g3) fun e w' ⟨ae, ι', D', H', h1, h2, h3, h4⟩ => ?_⟩
      cases ae with
      | ret v =>
        obtain ⟨c, rfl, r⟩ := h2
        exact hnext v c ι' D' H' w' h1 r h3 h4
      | pan v =>
        obtain ⟨c, rfl, r⟩ := h2
        exact hpan _ _ _ ⟨.pan v, ι', D', .leaf, H', h1, ⟨c, rfl, r⟩, he.leaf, h3, h4⟩
    · exact h.elim
  | pan x =>
    simp only [aop1] at h
    split at h
    · next t v hv =>
      obtain ⟨q, ho, hq⟩ := pan_inv hc
      have r := cX_sound hq hv he
      obtain ⟨d, e, _⟩ := r.ifc_inv
      have hrun : (execOp a.eval o).run P w = .halt (.panic (.iface t d)) w := by
        unfold execOp
        simp only [ho, e, Instr.panic, Sem.run_bind, run_goPanic, Result.andThen_halt]
      refine fw_op hc ?_
      rw [hrun]
      rw [e] at r
      exact hpan _ _ _ ⟨.pan (.ifc t v), ι, D, .leaf, H, h, ⟨_, rfl, r⟩, he.leaf, hR, Stp.refl⟩
    · exact h.elim

theorem aops_sound {ro : Option Nat} {ops : Array Oper} {Q : AExit → Env → AH → Prop} {ι₀ : Inj} {D₀ : Nat → Prop} {H₀ : AH} {w₀ : World} : ∀ {l : List Oper} {xs : List AOper} {ι : Inj} {D : Nat → Prop} {env : Env} {a : Act} {H : AH} {w : World}, compOpers P N ops l = some xs →
    aops P W0 Q xs env H → REnv ds ι D N env a → Rel P W0 ι D H w → Stp ι₀ D₀ H₀ w₀ ι D H w → wpListIn (Fw ro) 0 P ops (Lift P ds W0 N Q ι₀ D₀ H₀ w₀) l a w
  | [], xs, ι, D, env, a, H, w, hc, h, he, hR, h0 => by
    simp only [compOpers, Option.some.injEq] at hc; subst hc
    exact ⟨.normal, ι, D, env, H, h, rfl, he, hR, h0⟩
  | o :: l, xs, ι, D, env, a, H, w, hc, h, he, hR, h0 => by
    unfold compOpers at hc
    split at hc
    · next x m hx hm =>
      simp only [Option.some.injEq] at hc; subst hc
      obtain ⟨c1, c2, c3, c4⟩ := compOper_inv hx
      simp only [aops] at h
      split at h
      · next hg =>
        have hw := guard_sound he c4 hg
        unfold wpListIn
        rw [if_pos hw]
        refine op_wp (N := N) c1 h he hR (fun v c ι' D' H' w' hK hv hR' hs => ?_) (fun e a' w' hl => hl.back h0)
        have he' : REnv ds ι' D' N (putE env x.dst v) (a.put o.dst c) := by rw [c2]; exact (he.ext hs.ext).putE c3 hv
        exact aops_sound hm hK he' hR' (h0.trans hs)
      · next hg =>
        have hw := guard_sound he c4 hg
        unfold wpListIn
        rw [if_neg (by rw [hw]; simp)]
        refine ⟨fun _ _ => trivial, ?_⟩
        have he' : REnv ds ι D N (putE env x.dst (.tup [])) (a.put o.dst undef) := by rw [c2]; exact he.putE c3 rv_undef
        exact aops_sound hm h he' hR h0
      · exact h.elim
    · cases hc

end Ram
