/- A part of the proof: contracts of functions, over the abstract machine. -/
import Derived.Test.YtjaammiblfndaaaGreatDoorFx3
set_option linter.unusedVariables false
set_option linter.unusedSimpArgs false
set_option linter.all false
/- Words for runs that the kernel reckons fast: operations on memory. -/
namespace Ram
open Go
noncomputable section

/-- Keys: alike? -/
def sameC (kk : KK) (x y : V) (f t : Bool) : Bool := KK.rec (motive := fun _ => Bool) (asI x fun ka na => asI y fun kb nb => eqK ka kb (eqZ na nb f t)) (asB x fun a => asB y fun b => iteB a (iteB b t f) (iteB b f t)) (asS x fun a => asS y fun b => eqS a b f t) kk
theorem sameC_true {kk : KK} {x y : V} {f t : Bool} (h : sameC kk x y f t = true) : (sameCell kk x y = some true ∧ t = true) ∨ (sameCell kk x y = some false ∧ f = true) := by
  cases kk with
  | i =>
    replace h := asI_true h; obtain ⟨ka, na, rfl, h⟩ := h
    replace h := asI_true h; obtain ⟨kb, nb, rfl, h⟩ := h
    replace h := eqK_true h; obtain ⟨rfl, h⟩ := h
    rw [eqZ_eq] at h
    by_cases e : na = nb
    · rw [if_pos e] at h; exact .inl ⟨by simp [sameCell, e], h⟩
    · rw [if_neg e] at h; exact .inr ⟨by simp [sameCell, e], h⟩
  | b =>
    replace h := asB_true h; obtain ⟨a, rfl, h⟩ := h
    replace h := asB_true h; obtain ⟨b, rfl, h⟩ := h
    cases a <;> cases b
    · exact .inl ⟨rfl, h⟩
    · exact .inr ⟨rfl, h⟩
    · exact .inr ⟨rfl, h⟩
    · exact .inl ⟨rfl, h⟩
  | s =>
    replace h := asS_true h; obtain ⟨a, rfl, h⟩ := h
    replace h := asS_true h; obtain ⟨b, rfl, h⟩ := h
    rw [eqS_eq] at h
    by_cases e : a = b
    · rw [if_pos e] at h; exact .inl ⟨by simp [sameCell, e], h⟩
    · rw [if_neg e] at h; exact .inr ⟨by simp [sameCell, e], h⟩
def sameA1 (p : Nat × KK) (ih : Bool) (xs ys : List V) (f : Bool) : Bool := Prod.rec (motive := fun _ => Bool) (fun o kk => nthL xs o fun x => nthL ys o fun y => sameC kk x y f ih) p
def sameA (l : List (Nat × KK)) (xs ys : List V) (f t : Bool) : Bool := List.rec (motive := fun _ => Bool) t (fun p _ ih => sameA1 p ih xs ys f) l
theorem sameA_true : ∀ {l : List (Nat × KK)} {xs ys : List V} {f t : Bool}, sameA l xs ys f t = true → (sameAt l xs ys = some true ∧ t = true) ∨ (sameAt l xs ys = some false ∧ f = true)
  | [], _, _, _, _, h => .inl ⟨rfl, h⟩
  | (o, kk) :: l, xs, ys, f, t, h => by
    replace h := nthL_true (l := xs) h; obtain ⟨x, h1, h⟩ := h
    replace h := nthL_true h; obtain ⟨y, h2, h⟩ := h
    simp only [sameAt, h1, h2]
    replace h := sameC_true h; rcases h with ⟨h3, h⟩ | ⟨h3, h⟩
    · rw [h3]; exact sameA_true h
    · rw [h3]; exact .inr ⟨rfl, h⟩
def sameV (ks : KS) (x y : V) (f t : Bool) : Bool := KS.rec (motive := fun _ => Bool) (fun kk => sameC kk x y f t) (fun l => asAgg x fun xs => asAgg y fun ys => lenL l fun n => lenIs xs n (lenIs ys n (sameA l xs ys f t))) ks
theorem sameV_true {ks : KS} {x y : V} {f t : Bool} (h : sameV ks x y f t = true) : (sameKey ks x y = some true ∧ t = true) ∨ (sameKey ks x y = some false ∧ f = true) := by
  cases ks with
  | one kk => exact sameC_true h
  | flat l =>
    replace h := asAgg_true h; obtain ⟨xs, rfl, h⟩ := h
    replace h := asAgg_true h; obtain ⟨ys, rfl, h⟩ := h
    rw [lenL_eq] at h
    replace h := lenIs_true h; obtain ⟨h1, h⟩ := h
    replace h := lenIs_true h; obtain ⟨h2, h⟩ := h
    simp only [sameKey]
    rw [if_pos ⟨h1, h2⟩]
    exact sameA_true h
/-- Where a key is, and its value; or nowhere. -/
def find1 (p : V × V) (ih : Nat → Bool) (ks : KS) (k : V) (i : Nat) (g : Nat → V → Bool) : Bool := Prod.rec (motive := fun _ => Bool) (fun k' v => sameV ks k k' (fN (Nat.succ i) ih) (g i v)) p
def findL (ks : KS) (k : V) (es : List (V × V)) (n : Bool) (g : Nat → V → Bool) : Bool := List.rec (motive := fun _ => Nat → Bool) (fun _ => n) (fun p _ ih i => find1 p ih ks k i g) es (nat_lit 0)
theorem findL_aux {ks : KS} {k : V} {n : Bool} {g : Nat → V → Bool} : ∀ {es : List (V × V)} {i : Nat}, List.rec (motive := fun _ => Nat → Bool) (fun _ => n) (fun p _ ih i => find1 p ih ks k i g) es i = true →
    (findV ks k es = some none ∧ n = true) ∨ ∃ j v, findV ks k es = some (some (j, v)) ∧ g (i + j) v = true
  | [], _, h => .inl ⟨rfl, h⟩
  | (k', v) :: es, i, h => by
    simp only [findV]
    replace h := sameV_true h; rcases h with ⟨h1, h⟩ | ⟨h1, h⟩
    · rw [h1]; exact .inr ⟨0, v, rfl, h⟩
    · rw [h1]
      rcases findL_aux (es := es) (i := i + 1) h with ⟨h2, h⟩ | ⟨j, u, h2, h⟩
      · rw [h2]; exact .inl ⟨rfl, h⟩
      · rw [h2]; exact .inr ⟨j + 1, u, rfl, by rw [show i + (j + 1) = i + 1 + j by omega]; exact h⟩
theorem findL_true {ks : KS} {k : V} {es : List (V × V)} {n : Bool} {g : Nat → V → Bool} (h : findL ks k es n g = true) : (findV ks k es = some none ∧ n = true) ∨ ∃ j v, findV ks k es = some (some (j, v)) ∧ g j v = true := by
  replace h := findL_aux h; rcases h with h | ⟨j, v, h1, h⟩
  · exact .inl h
  · exact .inr ⟨j, v, h1, by rw [show (nat_lit 0) + j = j from Nat.zero_add j] at h; exact h⟩
/-- A map's object. -/
def asM (v : V) (g : Nat → Bool) : Bool := V.rec (motive_1 := fun _ => Bool) (motive_2 := fun _ => Bool) (fun _ => false) (fun _ _ => false) (fun _ => false) (fun _ => false) (fun _ _ _ _ => false) (fun a => Option.rec (motive := fun _ => Bool) false (fun i => g i) a) (fun _ _ _ _ _ => false) false (fun _ _ _ => false) false (fun _ _ => false) (fun _ _ => false) false (fun _ _ _ _ => false) v
theorem asM_true {v : V} {g : Nat → Bool} (h : asM v g = true) : ∃ i, v = .m (some i) ∧ g i = true := by
  cases v with
  | m a => cases a with
    | none => cases h
    | some i => exact ⟨i, rfl, h⟩
  | _ => cases h
def asM2 (v : V) (n : Bool) (g : Nat → Bool) : Bool := V.rec (motive_1 := fun _ => Bool) (motive_2 := fun _ => Bool) (fun _ => false) (fun _ _ => false) (fun _ => false) (fun _ => false) (fun _ _ _ _ => false) (fun a => Option.rec (motive := fun _ => Bool) n (fun i => g i) a) (fun _ _ _ _ _ => false) false (fun _ _ _ => false) false (fun _ _ => false) (fun _ _ => false) false (fun _ _ _ _ => false) v
theorem asM2_true {v : V} {n : Bool} {g : Nat → Bool} (h : asM2 v n g = true) : (v = .m none ∧ n = true) ∨ ∃ i, v = .m (some i) ∧ g i = true := by
  cases v with
  | m a => cases a with
    | none => exact .inl ⟨rfl, h⟩
    | some i => exact .inr ⟨i, rfl, h⟩
  | _ => cases h
def keyB (ks : KS) (k : V) (t : Bool) : Bool := iteB (keyOk ks k) false t

section
variable {H : AH} {k : V → Bool}
def opRead (o : ReadOp) (H : AH) (k : V → Bool) : Bool := match areadF o .leaf H with
  | some v => fV v k
  | none => false
theorem opRead_true {o : ReadOp} (h : opRead o H k = true) : ∃ v, aread o .leaf H = some v ∧ k v = true := by
  unfold opRead at h
  rw [areadF_eq] at h
  split at h
  · next v hv => rw [fV_eq] at h; exact ⟨v, hv, h⟩
  · cases h
def opLd1 (a : V) (H : AH) (k : V → Bool) : Bool := asP a fun id o => getH H id fun ob => asCells ob fun _ cs => nthL cs o k
theorem opLd1_true {a : V} (h : opLd1 a H k = true) : ∃ v, aread (.ld1 (.c a)) .leaf H = some v ∧ k v = true := by
  replace h := asP_true h; obtain ⟨id, o, rfl, h⟩ := h
  replace h := getH_true h; obtain ⟨ob, h1, h⟩ := h
  replace h := asCells_true h; obtain ⟨md, cs, rfl, h⟩ := h
  replace h := nthL_true h; obtain ⟨v, h2, h⟩ := h
  exact ⟨v, by simp only [aread, X.ev, h1, h2], h⟩
def opLdN (n : Nat) (a : V) (H : AH) (k : V → Bool) : Bool := asP a fun id o => getH H id fun ob => asCells ob fun _ cs => dropL cs o fun r => takeL r n fun r => k (.agg r)
theorem opLdN_true {n : Nat} {a : V} (h : opLdN n a H k = true) : ∃ v, aread (.ldN n (.c a)) .leaf H = some v ∧ k v = true := by
  replace h := asP_true h; obtain ⟨id, o, rfl, h⟩ := h
  replace h := getH_true h; obtain ⟨ob, h1, h⟩ := h
  replace h := asCells_true h; obtain ⟨md, cs, rfl, h⟩ := h
  replace h := dropL_true h; obtain ⟨h2, h⟩ := h
  replace h := takeL_true h; obtain ⟨h3, h⟩ := h
  refine ⟨_, ?_, h⟩
  simp only [aread, X.ev, ldCells, h1]
  rw [List.length_drop] at h3
  rw [if_pos (by omega)]
def opLookup (ks : KS) (zero : V) (ok : Bool) (m q : V) (H : AH) (k : V → Bool) : Bool := iteB (keyOk ks q) false
  (asM2 m (k (iteV ok zero (.tup [zero, .b false]))) fun id => getH H id fun ob => asMap ob fun es => findL ks q es (k (iteV ok zero (.tup [zero, .b false]))) fun _ v => k (iteV ok v (.tup [v, .b true])))
where iteV (b : Bool) (f t : V) : V := Bool.rec (motive := fun _ => V) f t b
theorem iteV_eq (b : Bool) (f t : V) : opLookup.iteV b f t = if b then t else f := by cases b <;> rfl
theorem opLookup_true {ks : KS} {zero : V} {ok : Bool} {m q : V} (h : opLookup ks zero ok m q H k = true) : ∃ v, aread (.lookup ks zero ok (.c m) (.c q)) .leaf H = some v ∧ k v = true := by
  unfold opLookup at h
  simp only [iteV_eq] at h
  replace h := iteB_f h; obtain ⟨hk, h⟩ := h
  replace h := asM2_true h; rcases h with ⟨rfl, h⟩ | ⟨id, rfl, h⟩
  · exact ⟨_, by simp only [aread, X.ev]; rw [if_pos hk], h⟩
  · replace h := getH_true h; obtain ⟨ob, h1, h⟩ := h
    replace h := asMap_true h; obtain ⟨es, rfl, h⟩ := h
    replace h := findL_true h; rcases h with ⟨h2, h⟩ | ⟨j, v, h2, h⟩
    · exact ⟨_, by simp only [aread, X.ev, h1, h2]; rw [if_pos hk], h⟩
    · exact ⟨_, by simp only [aread, X.ev, h1, h2]; rw [if_pos hk], h⟩
end

section
variable {k : AO → V → Bool}
/-- A new object, and what points to it. -/
def opObj (o : AllocOp) (id : Nat) (k : AO → V → Bool) : Bool := match aallocF o .leaf with
  | some (ob, mk) => fO ob fun ob => fV (mk id) fun v => k ob v
  | none => false
theorem opObj_true {o : AllocOp} {id : Nat} (h : opObj o id k = true) : ∃ ob mk, aalloc o .leaf = some (ob, mk) ∧ k ob (mk id) = true := by
  unfold opObj at h
  rw [aallocF_eq] at h
  split at h
  · next ob mk hv => rw [fO_eq, fV_eq] at h; exact ⟨ob, mk, hv, h⟩
  · cases h
def opBox (x : V) (id : Nat) (k : AO → V → Bool) : Bool := fCells x fun cs => oneL cs (k (.cells .rw cs) (.p (some (id, nat_lit 0))))
theorem opBox_true {x : V} {id : Nat} (h : opBox x id k = true) : ∃ ob mk, aalloc (.box (.c x)) .leaf = some (ob, mk) ∧ k ob (mk id) = true := by
  unfold opBox at h
  rw [fCells_eq] at h
  replace h := oneL_true h; obtain ⟨h1, h⟩ := h
  exact ⟨_, _, by simp only [aalloc, X.ev]; rw [if_pos h1], h⟩
def opBslice (es len : Nat) (zs : List V) (ps : List (Nat × Nat × X)) (id : Nat) (k : AO → V → Bool) : Bool := fillL ps zs fun cs => oneL cs (k (.cells .rw cs) (.sl es (some (id, nat_lit 0)) len len))
theorem opBslice_true {es len : Nat} {zs : List V} {ps : List (Nat × Nat × X)} {id : Nat} (h : opBslice es len zs ps id k = true) : ∃ ob mk, aalloc (.bslice es len zs ps) .leaf = some (ob, mk) ∧ k ob (mk id) = true := by
  replace h := fillL_true h; obtain ⟨r, h1, h⟩ := h
  replace h := oneL_true h; obtain ⟨h2, h⟩ := h
  exact ⟨_, _, by simp only [aalloc, h1]; rw [if_pos h2], h⟩
def mapB1 (c : UInt8) (ih : (List V → Bool) → Bool) (K : List V → Bool) : Bool := fN c.toNat fun n => ih fun r => K (.i .u8 (Int.ofNat n) :: r)
def mapB (l : List UInt8) (K : List V → Bool) : Bool := List.rec (motive := fun _ => (List V → Bool) → Bool) (fun K => K []) (fun c _ ih K => mapB1 c ih K) l K
theorem mapB_eq : ∀ (l : List UInt8) (K : List V → Bool), mapB l K = K (l.map fun c => .i .u8 c.toNat)
  | [], _ => rfl
  | c :: l, K => mapB_eq l fun r => K (.i .u8 (Int.ofNat c.toNat) :: r)
def opS2b (x : V) (id : Nat) (k : AO → V → Bool) : Bool := asS x fun l => lenL l fun n => iteB (Nat.ble n (nat_lit 9223372036854775807)) false (mapB l fun cs => k (.cells .rws cs) (.sl (nat_lit 1) (some (id, nat_lit 0)) n n))
theorem opS2b_true {x : V} {id : Nat} (h : opS2b x id k = true) : ∃ ob mk, aalloc (.s2b (.c x)) .leaf = some (ob, mk) ∧ k ob (mk id) = true := by
  replace h := asS_true h; obtain ⟨l, rfl, h⟩ := h
  rw [lenL_eq] at h
  replace h := iteB_f h; obtain ⟨h1, h⟩ := h
  rw [mapB_eq] at h
  exact ⟨_, _, by simp only [aalloc, X.ev]; rw [if_pos (Nat.le_of_ble_eq_true h1)], h⟩
end

section
variable {H : AH} {k : V → AH → Bool}
/-- The next object's number. -/
def opNext (H : AH) (g : Nat → Bool) : Bool := AH.rec (motive := fun _ => Bool) (fun n _ => g n) H
theorem opNext_eq (H : AH) (g : Nat → Bool) : opNext H g = g H.next := rfl
def opLay (H : AH) (ob : AO) (K : AH → Bool) : Bool := allocH H ob fun _ H => K H
theorem opLay_true {ob : AO} {K : AH → Bool} (h : opLay H ob K = true) : K (H.alloc ob) = true := allocH_true h
def opAct (o : ActOp) (H : AH) (k : V → AH → Bool) : Bool := match aactD o .leaf H with
  | some (v, d) => fV v fun v => d.fOn H fun H => k v H
  | none => false
theorem opAct_true {o : ActOp} (h : opAct o H k = true) : ∃ v H', aact o .leaf H = some (v, H') ∧ k v H' = true := by
  unfold opAct at h
  split at h
  · next v d hv => rw [fV_eq, HD.fOn_eq] at h; exact ⟨v, d.on H, by rw [aactD_eq, hv]; rfl, h⟩
  · cases h
def opSt (n : Nat) (a x : V) (H : AH) (k : V → AH → Bool) : Bool := asP a fun id o => fCells x fun vs => lenIs vs n (oneL vs (getH H id fun ob => asCells ob fun md cs => mdW md (spliceL cs o vs fun cs => setH H id (.cells md cs) fun H => k (.tup []) H)))
theorem opSt_true {n : Nat} {a x : V} (h : opSt n a x H k = true) : ∃ v H', aact (.st n (.c a) (.c x)) .leaf H = some (v, H') ∧ k v H' = true := by
  replace h := asP_true h; obtain ⟨id, o, rfl, h⟩ := h
  rw [fCells_eq] at h
  replace h := lenIs_true h; obtain ⟨h1, h⟩ := h
  replace h := oneL_true h; obtain ⟨h2, h⟩ := h
  replace h := getH_true h; obtain ⟨ob, h3, h⟩ := h
  replace h := asCells_true h; obtain ⟨md, cs, rfl, h⟩ := h
  replace h := mdW_true h; obtain ⟨h4, h⟩ := h
  replace h := spliceL_true h; obtain ⟨h5, h⟩ := h
  exact ⟨_, _, by simp only [aact, X.ev, h3]; rw [if_pos ⟨h4, h1, h2, by omega⟩], setH_true h⟩
/-- The cells that an append adds. -/
def newC (H : AH) (es : Nat) (y : V) (K : Nat → List V → Bool) : Bool := V.rec (motive_1 := fun _ => Bool) (motive_2 := fun _ => Bool) (fun _ => false) (fun _ _ => false) (fun l => iteB (Nat.beq es (nat_lit 1)) false (lenL l fun n => mapB l fun cs => K n cs)) (fun _ => false)
  (fun es' a len _ => atA2 a (K (nat_lit 0) []) fun id o => iteB (Nat.beq es' es) false (getH H id fun ob => asCells ob fun _ cs => dropL cs o fun r => fN (Nat.mul len es) fun n => takeL r n fun r => K len r))
  (fun _ => false) (fun _ _ _ _ _ => false) false (fun _ _ _ => false) false (fun _ _ => false) (fun _ _ => false) false (fun _ _ _ _ => false) y
theorem newC_true {es : Nat} {y : V} {K : Nat → List V → Bool} (h : newC H es y K = true) : ∃ n cs, newCells H es y = some (n, cs) ∧ K n cs = true := by
  cases y with
  | s l =>
    replace h := iteB_f h; obtain ⟨h1, h⟩ := h
    rw [lenL_eq, mapB_eq] at h
    exact ⟨_, _, by simp only [newCells]; rw [if_pos (Nat.eq_of_beq_eq_true h1)], h⟩
  | sl es' a len cap =>
    have h : atA2 a (K 0 []) (fun id o => iteB (Nat.beq es' es) false (getH H id fun ob => asCells ob fun _ cs => dropL cs o fun r => fN (Nat.mul len es) fun n => takeL r n fun r => K len r)) = true := h
    replace h := atA2_true h; rcases h with ⟨rfl, h⟩ | ⟨id, o, rfl, h⟩
    · exact ⟨_, _, rfl, h⟩
    · replace h := iteB_f h; obtain ⟨h1, h⟩ := h
      have h1 := Nat.eq_of_beq_eq_true h1
      subst h1
      replace h := getH_true h; obtain ⟨ob, h3, h⟩ := h
      replace h := asCells_true h; obtain ⟨md, cs, rfl, h⟩ := h
      replace h := dropL_true h; obtain ⟨h4, h⟩ := h
      rw [fN_eq] at h
      replace h := takeL_true h; obtain ⟨h5, h⟩ := h
      rw [List.length_drop] at h5
      refine ⟨_, _, ?_, h⟩
      simp only [newCells, if_true, ldCells, h3]
      rw [if_pos (by show o + len * es' ≤ _; have : Nat.mul len es' = len * es' := rfl; omega)]
      rfl
  | _ => cases h
def opAppend (es bytes : Nat) (x y : V) (H : AH) (k : V → AH → Bool) : Bool := asSl x fun es' a len cap => newC H es y fun m xs => fN (Nat.add len m) fun t =>
  iteB (Nat.ble (Nat.mul t bytes) (nat_lit 140737488355328)) false (iteB (Nat.ble t (nat_lit 9223372036854775807)) false
  (atA2 a
    (iteB (Nat.beq m (nat_lit 0)) (allocH H (.cells .rw xs) fun id H => k (.sl es (some (id, nat_lit 0)) m m) H) (k (.sl es' none (nat_lit 0) (nat_lit 0)) H))
    fun id o => iteB (Nat.beq es' es) false (iteB (Nat.beq m (nat_lit 0)) (getH H id fun ob => asCells ob fun md cs => mdW md (iteB (Nat.ble t cap)
      (fN (Nat.add o (Nat.mul len es)) fun u => lenIs cs u (dropL cs o fun r => catL r xs fun cs => setH H id .dead fun H => allocH H (.cells md cs) fun id H => k (.sl es (some (id, nat_lit 0)) t t) H))
      (fN (Nat.add o (Nat.mul len es)) fun u => lenL cs fun w => iteB (Nat.ble (Nat.add o (Nat.mul t es)) w) false (spliceL cs u xs fun cs => setH H id (.cells md cs) fun H => k (.sl es (some (id, o)) t cap) H))))
      (k (.sl es (some (id, o)) len cap) H))))
theorem opAppend_true {es bytes : Nat} {x y : V} (h : opAppend es bytes x y H k = true) : ∃ v H', aact (.append es bytes (.c x) (.c y)) .leaf H = some (v, H') ∧ k v H' = true := by
  replace h := asSl_true h; obtain ⟨es', a, len, cap, rfl, h⟩ := h
  replace h := newC_true h; obtain ⟨m, xs, h1, h⟩ := h
  rw [fN_eq] at h
  replace h := iteB_f h; obtain ⟨h2, h⟩ := h
  replace h := iteB_f h; obtain ⟨h3, h⟩ := h
  have h2 : (len + m) * bytes ≤ 140737488355328 := Nat.le_of_ble_eq_true h2
  have h3 : len + m ≤ 9223372036854775807 := Nat.le_of_ble_eq_true h3
  simp only [aact, X.ev, h1]
  rw [if_pos ⟨h2, h3⟩]
  replace h := atA2_true h; rcases h with ⟨rfl, h⟩ | ⟨id, o, rfl, h⟩
  · simp only
    replace h := iteB_true h; rcases h with ⟨h4, h⟩ | ⟨h4, h⟩
    · have h4 := Nat.eq_of_beq_eq_true h4
      exact ⟨_, _, by rw [if_pos h4], h⟩
    · have h4 := Nat.ne_of_beq_eq_false h4
      exact ⟨_, _, by rw [if_neg h4], allocH_true (K := fun id H => k (.sl es (some (id, nat_lit 0)) m m) H) h⟩
  · simp only
    replace h := iteB_f h; obtain ⟨h4, h⟩ := h
    have h4 := Nat.eq_of_beq_eq_true h4
    subst h4
    rw [if_neg (by simp)]
    replace h := iteB_true h; rcases h with ⟨h5, h⟩ | ⟨h5, h⟩
    · have h5 := Nat.eq_of_beq_eq_true h5
      exact ⟨_, _, by rw [if_pos h5], h⟩
    · have h5 := Nat.ne_of_beq_eq_false h5
      rw [if_neg h5]
      replace h := getH_true h; obtain ⟨ob, h6, h⟩ := h
      replace h := asCells_true h; obtain ⟨md, cs, rfl, h⟩ := h
      replace h := mdW_true h; obtain ⟨h7, h⟩ := h
      simp only [h6]
      rw [if_neg h7]
      replace h := iteB_true h; rcases h with ⟨h8, h⟩ | ⟨h8, h⟩
      · have h8 : len + m ≤ cap := Nat.le_of_ble_eq_true h8
        rw [if_pos h8]
        rw [fN_eq, lenL_eq] at h
        replace h := iteB_f h; obtain ⟨h9, h⟩ := h
        replace h := spliceL_true h; obtain ⟨h10, h⟩ := h
        have h9 : o + (len + m) * es' ≤ cs.length := Nat.le_of_ble_eq_true h9
        exact ⟨_, _, by rw [if_pos h9]; rfl, setH_true h⟩
      · have h8 : ¬ len + m ≤ cap := fun hh => by rw [show Nat.ble (Nat.add len m) cap = true from Nat.ble_eq_true_of_le hh] at h8; cases h8
        rw [if_neg h8]
        rw [fN_eq] at h
        replace h := lenIs_true h; obtain ⟨h9, h⟩ := h
        replace h := dropL_true h; obtain ⟨h10, h⟩ := h
        rw [catL_eq] at h
        refine ⟨_, _, by rw [if_pos (show o + len * es' = cs.length from h9.symm)], ?_⟩
        exact allocH_true (K := fun id H => k (.sl es' (some (id, nat_lit 0)) (len + m) (len + m)) H) (setH_true h)
def setL1 (p : V × V) (ih : Nat → (List (V × V) → Bool) → Bool) (x : V × V) (t : List (V × V)) (n : Nat) (K : List (V × V) → Bool) : Bool := Nat.rec (motive := fun _ => Bool) (K (x :: t)) (fun m _ => ih m fun r => K (p :: r)) n
def setL (l : List (V × V)) (n : Nat) (x : V × V) (K : List (V × V) → Bool) : Bool := List.rec (motive := fun _ => Nat → (List (V × V) → Bool) → Bool) (fun _ _ => false) (fun p t ih n K => setL1 p ih x t n K) l n K
theorem setL_true : ∀ {l : List (V × V)} {n : Nat} {x : V × V} {K : List (V × V) → Bool}, setL l n x K = true → K (l.set n x) = true
  | [], _, _, _, h => by cases h
  | p :: l, 0, x, K, h => h
  | p :: l, n + 1, x, K, h => setL_true (l := l) (n := n) h
def opMapUpd (ks : KS) (m q v : V) (H : AH) (k : V → AH → Bool) : Bool := iteB (keyOk ks q) false (asM m fun id => getH H id fun ob => asMap ob fun es => findL ks q es (catL es [(q, v)] fun es => setH H id (.map es) fun H => k (.tup []) H) fun i _ => setL es i (q, v) fun es => setH H id (.map es) fun H => k (.tup []) H)
theorem opMapUpd_true {ks : KS} {m q u : V} (h : opMapUpd ks m q u H k = true) : ∃ v H', aact (.mapUpd ks (.c m) (.c q) (.c u)) .leaf H = some (v, H') ∧ k v H' = true := by
  replace h := iteB_f h; obtain ⟨hk, h⟩ := h
  replace h := asM_true h; obtain ⟨id, rfl, h⟩ := h
  replace h := getH_true h; obtain ⟨ob, h1, h⟩ := h
  replace h := asMap_true h; obtain ⟨es, rfl, h⟩ := h
  simp only [aact, X.ev]
  rw [if_pos hk]
  simp only [h1]
  replace h := findL_true h; rcases h with ⟨h2, h⟩ | ⟨j, v, h2, h⟩
  · rw [catL_eq] at h
    exact ⟨_, _, by rw [h2], setH_true h⟩
  · exact ⟨_, _, by rw [h2], setH_true (setL_true (K := fun es => setH H id (.map es) fun H => k (.tup []) H) h)⟩
end
end
end Ram
