/- A part of the proof: contracts of functions, over the abstract machine. -/
import Derived.Test.YtjaammiblfndaaaGreatDoorRaD
import Derived.Lib.LaidTab
import Derived.Lib.AppendIntMem
import Derived.LaidLaws
import Derived.LaidMore
import Derived.MakeChecks
import Derived.Stop.Joined
import Derived.Lib.Join
import Derived.Lib.ItoaNum
set_option linter.unusedVariables false
set_option linter.unusedSimpArgs false
set_option linter.all false
/- Calls of the library that only make memory of their own, taken over; the frame of a law whose variables are listed. -/
namespace Ram
open Go
open Go.RowKit (Below)

variable {P : Program} {W0 : World} {ι : Inj} {D : Nat → Prop} {H : AH} {w w' : World}

theorem below_same (h : Below w.heap.size w w') : SameOut w w' := ⟨h.os, h.tape, h.output, h.size⟩

/-- A call that turns nothing that was there. -/
theorem grown_of {f : FuncId} {args : List V} {r : V} (hb : HasBody P f)
    (hc : ∀ ι D w cs, RVs ι D args cs → Rel P W0 ι D H w → Calls P f cs.toArray w fun e w' => ∃ c, e = .returned c ∧ RV ι D r c ∧ Below w.heap.size w w') :
    ACalls P W0 f args H fun e H' => e = .ret r ∧ H = H' :=
  ⟨hb, fun ι D w cs hv hR => (hc ι D w cs hv hR).mono fun _ _ ⟨c, he, hr, hB⟩ => ⟨.ret r, ι, D, H, ⟨rfl, rfl⟩, ⟨c, he, hr⟩, rel_more hR (below_same hB) hB.block, stp_more (below_same hB) hB.block⟩⟩

theorem rv_bytes {ι : Inj} {D : Nat → Prop} (l : List UInt8) : RV ι D (.s l) (.string ⟨l.toArray⟩) := by
  have := RV.s (ι := ι) (D := D) ⟨l.toArray⟩
  simpa using this

/-- strconv.Itoa, taken over. -/
theorem itoa_of {f : FuncId} (hb : HasBody P f) {name : String} {k : IntKind} {zs : List Int} (htab : Lib.TabIs P W0 name k zs)
    (hc : ∀ (n : Int), -9223372036854775808 ≤ n → n ≤ 9223372036854775807 → ∀ (w : World), Lib.TabIs P w name k zs → Calls P f #[.int .i64 n] w fun e w' => e = .returned (.string ⟨(Lib.itoa n).toArray⟩) ∧ ∃ k os, w' = Sort.grow (w.drewN k) os)
    {n : Int} (h0 : -9223372036854775808 ≤ n) (h1 : n ≤ 9223372036854775807) : ACalls P W0 f [.i .i64 n] H fun e H' => e = .ret (.s (Lib.itoa n)) ∧ H = H' := by
  refine grown_of hb fun ι D w cs hv hR => ?_
  cases hv with
  | cons _ c _ _ r hn =>
    cases hn
    cases r
    refine (hc n h0 h1 w (Lib.tabBelow_of_tabIs htab w hR.below)).mono fun e w' ⟨he, m, os, hw⟩ => ⟨_, he, rv_bytes _, ?_⟩
    subst hw
    refine ⟨rfl, rfl, rfl, by simp [Sort.grow, World.drewN], fun b hb' => ?_⟩
    simp only [Sort.grow]
    rw [Array.getElem?_append_left (by simpa [World.drewN] using hb')]
    rfl

def sRow (l : List UInt8) : List V := [.s l]

/-- strings.Join, taken over. -/
theorem join_of {f : FuncId} (hb : HasBody P f)
    (h0 : ∀ (a : Option Addr) (c : Nat) (sep : ByteArray) (w : World), Calls P f #[.slice a 0 c, .string sep] w fun e w' => e = .returned (.string ⟨#[]⟩) ∧ w' = w)
    (hc : ∀ (bk o c : Nat) (xs : List ByteArray) (sep : ByteArray) (w : World), (∀ (j : Nat) x, xs[j]? = some x → w.cell? ⟨bk, o + j, none⟩ = some (.string x)) → bk < w.heap.size → xs.length ≤ 140737488355328 → xs.length ≤ c →
      (Lib.join (xs.map (·.data.toList)) sep.data.toList).length ≤ 140737488355328 →
      Calls P f #[.slice (some ⟨bk, o, none⟩) xs.length c, .string sep] w fun e w' => e = .returned (.string ⟨(Lib.join (xs.map (·.data.toList)) sep.data.toList).toArray⟩) ∧ Below w.heap.size w w')
    {v : V} {ls : List (List UInt8)} {sep : List UInt8} {md : Md} {F : Nat → Prop} (hs : SlV H md 1 v (ls.map sRow) F) (hl : (Lib.join ls sep).length ≤ 140737488355328) (hn : ls.length ≤ 140737488355328) :
    ACalls P W0 f [v, .s sep] H fun e H' => e = .ret (.s (Lib.join ls sep)) ∧ H = H' := by
  refine grown_of hb fun ι D w cs hv hR => ?_
  cases hv with
  | cons _ c _ _ r hv =>
    cases hv with
    | cons _ cz _ _ rz hv =>
      cases hv
      obtain ⟨sb, rfl, hsb⟩ : ∃ sb : ByteArray, cz = .string sb ∧ sb.data.toList = sep := by cases rz; exact ⟨_, rfl, rfl⟩
      by_cases hz : ls = []
      · subst hz
        have hcc : ∃ p cap, c = .slice p 0 cap := by
          rcases hs with ⟨_, e, rfl⟩ | ⟨id, o, cap, cs, rfl, _, _⟩
          · cases r; exact ⟨none, 0, rfl⟩
          · cases r; exact ⟨_, _, rfl⟩
        obtain ⟨p, cap, rfl⟩ := hcc
        refine (h0 p cap sb w).mono fun e w' ⟨he, hw⟩ => ⟨_, he, ?_, hw ▸ Below.refl _ _⟩
        exact rv_bytes []
      · rcases hs with ⟨hnil, _⟩ | ⟨id, o, cap, cs, rfl, hF, hs⟩
        · simp only [List.map_eq_nil_iff] at hnil; exact (hz hnil).elim
        have hpos : 0 < ls.length := by
          cases ls with
          | nil => exact (hz rfl).elim
          | cons a l => simp
        cases r with
        | sl es _ _ q len _ ccap hD h1 h2 h3 h4 =>
          rw [List.length_map] at h1 ⊢
          have hcap : ccap ≠ 0 := by omega
          obtain ⟨hq, hfit⟩ := h4.resolve_left hcap
          subst hq
          obtain ⟨k, hk⟩ : ∃ k, k = (ι id).o + o := ⟨_, rfl⟩
          rw [← hk]
          obtain ⟨ca, e, fr, hb1, hb2, hb3, hb4, hb5, hb6, hb7⟩ := hR.objs id _ hs.get
          have hlt : (ι id).b < w.heap.size := hR.inw id hD
          obtain ⟨xs, hxs⟩ : ∃ xs : List ByteArray, xs = ls.map fun l => ⟨l.toArray⟩ := ⟨_, rfl⟩
          have hxl : xs.length = ls.length := by rw [hxs, List.length_map]
          have hxm : xs.map (·.data.toList) = ls := by rw [hxs, List.map_map]; exact (List.map_congr_left fun l _ => by simp).trans (List.map_id _)
          have hcell : ∀ (j : Nat) x, xs[j]? = some x → w.cell? ⟨(ι id).b, k + j, none⟩ = some (.string x) := by
            intro j x hj
            have hjl : j < ls.length := by have := (List.getElem?_eq_some_iff.1 hj).1; omega
            have hx : x = ⟨(ls[j]).toArray⟩ := by
              rw [hxs, List.getElem?_map, List.getElem?_eq_getElem hjl] at hj
              simpa using hj.symm
            have hcj := hs.cell (i := j) (j := 0) (r := sRow ls[j]) (by rw [List.getElem?_map, List.getElem?_eq_getElem hjl]; rfl) (by omega)
            simp only [sRow, List.getElem?_cons_zero, Nat.mul_one, Nat.add_zero] at hcj
            obtain ⟨c', g1, g2⟩ := hb5.get _ _ hcj
            have hjc : o + j < cs.length := (List.getElem?_eq_some_iff.1 hcj).1
            rw [List.getElem?_take, if_pos hjc, List.getElem?_drop, Array.getElem?_toList] at g1
            obtain ⟨xb, rfl, hxb⟩ : ∃ xb : ByteArray, c' = .string xb ∧ xb.data.toList = ls[j] := by
              generalize ls[j] = l at g2
              cases g2; exact ⟨_, rfl, rfl⟩
            simp only [World.cell?, hb1]
            rw [if_neg (by simp), hk, show (ι id).o + o + j = (ι id).o + (o + j) by omega, g1, hx, ← hxb]
          have := hc (ι id).b k ccap xs sb w hcell hlt (by omega) (by omega) (by rw [hxm, hsb]; exact hl)
          rw [hxl, hxm, hsb] at this
          exact this.mono fun e w' ⟨he, hB⟩ => ⟨_, he, rv_bytes _, hB⟩

/-- The table that stands third on the list. -/
theorem tab_third {P : Program} {W : World} {n1 n2 name : String} {d1 d2 : DataW Unit} {k : IntKind} {zs : List Int} {rest : List (String × DataW Unit)} {g : Nat} {t e : TypeId} {n : Nat}
    (hg : P.globalNamed name = some g) (hty : (P.globals[g]?).map (·.type) = some t) (ht : P.underlying t = some (.array n e)) (he : P.underlying e = some (.int k)) (hce : P.cellsOf e = 1) (hct : P.cellsOf t = n)
    (h : laidMet P ((n1, d1) :: (n2, d2) :: (name, Lib.tabData k zs) :: rest) W) : Lib.TabIs P W name k zs := by
  obtain ⟨ps, ⟨g0, t0, cs0, f0, p0, q0, hg0, ht0, hv0, hd0, ⟨g1, t1, cs1, f1, p1, q1, hg1, ht1, hv1, hd1, ⟨g', t', cs, fuel, p, q, hg', ht', hvar, hd, _, _⟩, _⟩, _⟩, _⟩ := h
  obtain rfl := Option.some.inj (hg.symm.trans hg')
  obtain rfl := Option.some.inj (hty.symm.trans ht')
  unfold Lib.TabIs
  rw [hvar, ← Lib.cells_of_tab ht he hce hct hd]

/-- Bit by bit. -/
@[irreducible] def andI (k : IntKind) (a b : Int) : Int := k.wrap (BitVec.ofInt k.bits a &&& BitVec.ofInt k.bits b).toNat
@[irreducible] def orI (k : IntKind) (a b : Int) : Int := k.wrap (BitVec.ofInt k.bits a ||| BitVec.ofInt k.bits b).toNat
@[irreducible] def xorI (k : IntKind) (a b : Int) : Int := k.wrap (BitVec.ofInt k.bits a ^^^ BitVec.ofInt k.bits b).toNat
@[simp ↓ high] theorem binI_and {k : IntKind} {a b : Int} : binI .and k a b = some (.i k (andI k a b)) := nrfl (by unfold andI binI; rfl)
@[simp ↓ high] theorem binI_or {k : IntKind} {a b : Int} : binI .or k a b = some (.i k (orI k a b)) := nrfl (by unfold orI binI; rfl)
@[simp ↓ high] theorem binI_xor {k : IntKind} {a b : Int} : binI .xor k a b = some (.i k (xorI k a b)) := nrfl (by unfold xorI binI; rfl)
/-- Shifts. -/
@[irreducible] def shrI (k : IntKind) (a b : Int) : Int := a.fdiv (2 ^ (min b.toNat k.bits))
@[irreducible] def shlI (k : IntKind) (a b : Int) : Int := k.wrap (a * 2 ^ (min b.toNat k.bits))
theorem shr_eq {k : IntKind} {a b : Int} : shrI k a b = a.fdiv (2 ^ (min b.toNat k.bits)) := by unfold shrI; rfl
theorem shl_eq {k : IntKind} {a b : Int} : shlI k a b = k.wrap (a * 2 ^ (min b.toNat k.bits)) := by unfold shlI; rfl
theorem and_eq {k : IntKind} {a b : Int} : andI k a b = k.wrap (BitVec.ofInt k.bits a &&& BitVec.ofInt k.bits b).toNat := by unfold andI; rfl
theorem or_eq {k : IntKind} {a b : Int} : orI k a b = k.wrap (BitVec.ofInt k.bits a ||| BitVec.ofInt k.bits b).toNat := by unfold orI; rfl
theorem xor_eq {k : IntKind} {a b : Int} : xorI k a b = k.wrap (BitVec.ofInt k.bits a ^^^ BitVec.ofInt k.bits b).toNat := by unfold xorI; rfl
end Ram
namespace Ram
open Go Go.ChangeShapes Go.WideShapes Go.ChangeAt Go.RowKit
variable {P : Program} {H : Type} {enc : TypeId × Value → H}

/-- THE FRAME OF A LAW whose variables are listed. -/
theorem law_lifted_laid {a : Assume} {C : Checked} {os : Os} {f : FuncId} {fn : Func} {s : ChangeSpec} {conds : List PathCond} {apart fresh handsOn again : Bool} {n : Nat} {tys : List ATy} {tb : TypeId} {laid : List (String × DataW Unit)}
    (own : ownKnob C.prog.godebug = none) (started : os.Started) (noInit : C.prog.inits.idxOf? f = none) (hfn : C.prog.funcs[f]? = some fn)
    (witness : ∃ (w : World) (tape : Tape) (i : Input), w.os = os ∧ (w.forCall tape i).Shaped C.prog ∧ i.vars = [] ∧ Input.okWide C.prog (w.forCall tape i) .any w.heap.size f i ∧
      ((s.pre enc C.prog fn conds apart (w.forCall tape i).memory i.args ∧ laidMetH C.prog laid (w.forCall tape i).memory) ∧ sizedMet enc C.prog fn (OpenSpec.ofChange s) apart (w.forCall tape i).memory i.args) ∧ a.holds C.prog (lone (Frame.enter C.prog f i.args .normal) [] (w.forCall tape i)))
    (hl : laidOutB C.prog = true) (hread : (fn.params.toList.all fun t => C.prog.readableRec t && decide (t < C.prog.types.size)) = true)
    (hvars : s.vars = []) (hspec : ∀ ds : List (DataW H), ds.length = fn.params.size → s.fn H ds = { results := [.lit (.bool true)], args := ds })
    (htys : argTys C.prog (n + 1) fn.params.toList = some tys) (hres : fn.resultTypes = #[tb]) (hbool : C.prog.underlying tb = some .bool)
    (hlaw : ∀ W A as, laidMetH C.prog laid W → HasA A tys as → ACalls C.prog W f as A fun e _ => e = .ret (.b true)) :
    ReturnsInHanded a C os f .any (fun w args => (s.pre enc C.prog fn conds apart w args ∧ laidMetH C.prog laid w) ∧ sizedMet enc C.prog fn (OpenSpec.ofChange s) apart w args) (s.post enc C.prog fn apart fresh handsOn again) := by
  refine returnsInHanded_of_calls own started noInit witness ?_
  intro w tape i _ hshape _ hok hpre hholds
  obtain ⟨_, _, _, fn', hfn', _, _, _, _, hval⟩ := hok
  have e : fn' = fn := Option.some.inj (hfn'.symm.trans hfn)
  subst e
  obtain ⟨⟨⟨ds, gs, before, hw, hc⟩, hx⟩, hz⟩ := hpre
  have hw' := DataW.Whole.of_heap (w' := w.forCall tape i) (by rfl) hw
  refine (law_calls (apart := apart) (fresh := fresh) (handsOn := handsOn) (again := again) hl hread hvars hspec htys hres hbool (cells_block hshape) hval hw' fun A as h => hlaw _ A as (hx.of_heap (by rfl)) h).mono fun e W' ⟨v, he, hp⟩ => ?_
  subst he
  exact ChangeSpec.post_blind hp
end Ram
