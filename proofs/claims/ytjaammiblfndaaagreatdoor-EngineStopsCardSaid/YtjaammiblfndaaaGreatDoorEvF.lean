/- A part of the proof: contracts of functions, over the abstract machine. -/
import Derived.Test.YtjaammiblfndaaaGreatDoorRb0
set_option linter.unusedVariables false
set_option linter.unusedSimpArgs false
set_option linter.all false
/- The operations, one by one, for runs. -/
namespace Ram
open Go
theorem wrap_i64' (n : Int) : IntKind.i64.wrap n = if n % 18446744073709551616 ≥ 9223372036854775808 then n % 18446744073709551616 - 18446744073709551616 else n % 18446744073709551616 := by
  simp [IntKind.wrap, IntKind.signed, IntKind.bits]
def wrapS (m h : Int) (n : Int) : Int := match Int.decLt (n % m) h with
  | isTrue _ => n % m
  | isFalse _ => n % m - m
/-- A number as one of its kind. -/
def wrapF : IntKind → Int → Int
  | .i64, n => wrapS 18446744073709551616 9223372036854775808 n
  | .u64, n => n % 18446744073709551616
  | .i32, n => wrapS 4294967296 2147483648 n
  | .u32, n => n % 4294967296
  | .u8, n => n % 256
  | .i8, n => wrapS 256 128 n
  | .u16, n => n % 65536
  | .i16, n => wrapS 65536 32768 n
theorem wrapF_eq : wrapF = IntKind.wrap := by
  funext k n
  cases k <;> simp [wrapF, wrapS, IntKind.wrap, IntKind.signed, IntKind.bits] <;> (split <;> first | (rename_i h _; rw [if_neg (by omega)]) | (rename_i h _; rw [if_pos (by omega)]))
def pow2F (n : Nat) : Int := ((2 ^ n : Nat) : Int)
theorem pow2F_eq (n : Nat) : pow2F n = 2 ^ n := by simp [pow2F]
/-- Whole numbers: one operator. -/
def binIF (op : BinOp) (k : IntKind) (a b : Int) : Option V :=
  match op with
  | .add => some (.i k (wrapF k (a + b)))
  | .sub => some (.i k (wrapF k (a - b)))
  | .mul => some (.i k (wrapF k (a * b)))
  | .quo => if b = 0 then none else some (.i k (wrapF k (a.tdiv b)))
  | .rem => if b = 0 then none else some (.i k (a.tmod b))
  | .and => some (.i k (wrapF k (BitVec.ofInt k.bits a &&& BitVec.ofInt k.bits b).toNat))
  | .or => some (.i k (wrapF k (BitVec.ofInt k.bits a ||| BitVec.ofInt k.bits b).toNat))
  | .xor => some (.i k (wrapF k (BitVec.ofInt k.bits a ^^^ BitVec.ofInt k.bits b).toNat))
  | .andNot => some (.i k (wrapF k (BitVec.ofInt k.bits a &&& ~~~ BitVec.ofInt k.bits b).toNat))
  | .eql => some (.b (a == b))
  | .neq => some (.b (a != b))
  | .lss => some (.b (a < b))
  | .leq => some (.b (a ≤ b))
  | .gtr => some (.b (a > b))
  | .geq => some (.b (a ≥ b))
  | _ => none

def apure_mv (x : X) (e : Env) : Option V := x.ev e
def apure_mvS (x : X) (e : Env) : Option V := match x.ev e with
  | some (.s l) => some (.s l)
  | _ => none
def apure_pick (c : X) (a : X) (b : X) (e : Env) : Option V := match c.ev e with
  | some (.b true) => a.ev e
  | some (.b false) => b.ev e
  | _ => none
def apure_build (zs : List V) (parts : List (Nat × Nat × X)) (e : Env) : Option V := match fillV e zs parts with
  | some cs => some (.agg cs)
  | none => none
def apure_nilCheck (x : X) (e : Env) : Option V := match x.ev e with
  | some (.p (some a)) => some (.p (some a))
  | some (.f (.func f) a b) => some (.f (.func f) a b)
  | _ => none
def apure_fieldAddr (off : Nat) (x : X) (e : Env) : Option V := match x.ev e with
  | some (.p (some (id, o))) => some (.p (some (id, o + off)))
  | _ => none
def apure_idxAddrSl (es : Nat) (x : X) (i : X) (e : Env) : Option V := match x.ev e, i.ev e with
  | some (.sl es' (some (id, o)) len _), some (.i _ n) => if es' = es ∧ 0 ≤ n ∧ n < len then some (.p (some (id, o + n.toNat * es))) else none
  | _, _ => none
def apure_idxAddrArr (len : Nat) (es : Nat) (x : X) (i : X) (e : Env) : Option V := match x.ev e, i.ev e with
  | some (.p (some (id, o))), some (.i _ n) => if 0 ≤ n ∧ n < len then some (.p (some (id, o + n.toNat * es))) else none
  | _, _ => none
def apure_field (agg : Bool) (off : Nat) (n : Nat) (x : X) (e : Env) : Option V := match x.ev e with
  | some (.agg cs) => if agg then some (.agg ((cs.drop off).take n)) else cs[off]?
  | _ => none
def apure_idxArr (agg : Bool) (len : Nat) (es : Nat) (x : X) (i : X) (e : Env) : Option V := match x.ev e, i.ev e with
  | some (.agg cs), some (.i _ n) => if 0 ≤ n ∧ n < len then (if agg then some (.agg ((cs.drop (n.toNat * es)).take es)) else cs[n.toNat * es]?) else none
  | _, _ => none
def apure_idxStr (x : X) (i : X) (e : Env) : Option V := match x.ev e, i.ev e with
  | some (.s l), some (.i _ n) => if 0 ≤ n then (match l[n.toNat]? with | some c => some (.i .u8 c.toNat) | none => none) else none
  | _, _ => none
def apure_bin (op : BinOp) (x : X) (y : X) (e : Env) : Option V := match x.ev e, y.ev e with
  | some (.i k a), some (.i k' b) => match op with
    | .shl => if b < 0 then none else some (.i k (wrapF k (a * pow2F (min b.toNat k.bits))))
    | .shr => if b < 0 then none else some (.i k (a.fdiv (pow2F (min b.toNat k.bits))))
    | op => if k = k' then binIF op k a b else none
  | some (.s a), some (.s b) => binS op a b
  | _, _ => none
def apure_eqB (neg : Bool) (x : X) (y : X) (e : Env) : Option V := match x.ev e, y.ev e with
  | some (.b a), some (.b b) => some (.b (if neg then !(a == b) else a == b))
  | _, _ => none
def apure_eqAgg (neg : Bool) (kinds : List (Nat × KK)) (x : X) (y : X) (e : Env) : Option V := match x.ev e, y.ev e with
  | some (.agg xs), some (.agg ys) => match sameAt kinds xs ys with
    | some r => some (.b (if neg then !r else r))
    | none => none
  | _, _ => none
def apure_isNil (kd : Nat) (neg : Bool) (x : X) (y : X) (e : Env) : Option V := match kd, x.ev e, y.ev e with
  | 0, some (.sl _ a _ _), some (.sl _ none _ _) => some (.b (if neg then !a.isNone else a.isNone))
  | 1, some (.m a), some (.m none) => some (.b (if neg then !a.isNone else a.isNone))
  | 2, some .nf, some .nf => some (.b (!neg))
  | 2, some (.f _ _ _), some .nf => some (.b neg)
  | _, _, _ => none
def apure_un (op : UnOp) (x : X) (e : Env) : Option V := match op, x.ev e with
  | .not, some (.b a) => some (.b (!a))
  | .neg, some (.i k n) => some (.i k (wrapF k (0 - n)))
  | .xor, some (.i k n) => binIF .xor k (if k.signed then -1 else k.max) n
  | _, _ => none
def apure_conv (k : IntKind) (x : X) (e : Env) : Option V := match x.ev e with
  | some (.i _ n) => some (.i k (wrapF k n))
  | _ => none
def apure_mkFunc (f : FuncId) (a : List X) (b : List X) (e : Env) : Option V := match evs e a, evs e b with
  | some as, some bs => some (.f (.func f) as bs)
  | _, _ => none
def apure_slStr (x : X) (lo : Option X) (hi : Option X) (e : Env) : Option V := match x.ev e with
  | some (.s l) => match cut2 e l.length l.length lo hi with
    | some (a, b) => some (.s ((l.drop a).take (b - a)))
    | none => none
  | _ => none
def apure_slSl (es : Nat) (x : X) (lo : Option X) (hi : Option X) (mx : Option X) (e : Env) : Option V := match x.ev e with
  | some (.sl es' a len cap) => match mx with
    | none => match cut2 e len cap lo hi with
      | some (l, h) => match a with
        | some (id, o) => if es' = es then some (.sl es (some (id, o + l * es)) (h - l) (cap - l)) else none
        | none => some (.sl es' none 0 0)
      | none => none
    | some m => match bnd e cap m with
      | some m => match cut2 e len m lo hi with
        | some (l, h) => match hi, a with
          | some _, some (id, o) => if es' = es then some (.sl es (some (id, o + l * es)) (h - l) (m - l)) else none
          | some _, none => some (.sl es' none 0 0)
          | none, _ => none
        | none => none
      | none => none
  | _ => none
def apure_lenS (x : X) (e : Env) : Option V := match x.ev e with
  | some (.s l) => some (.i .i64 l.length)
  | _ => none
def apure_lenSl (x : X) (e : Env) : Option V := match x.ev e with
  | some (.sl _ _ n _) => some (.i .i64 n)
  | _ => none
def apure_lenC (n : Nat) (e : Env) : Option V := some (.i .i64 n)
def apure_mkIface (t : TypeId) (x : X) (e : Env) : Option V := match x.ev e with
  | some v => some (.ifc t v)
  | none => none
def apure_extract (i : Nat) (x : X) (e : Env) : Option V := match x.ev e with
  | some (.tup vs) => vs[i]?
  | _ => none
def apure_mxmn (mx : Bool) (xs : List X) (e : Env) : Option V := match evs e xs with
  | some (.i k a :: r) => match mxL mx a r with
    | some m => some (.i k m)
    | none => none
  | _ => none
def apure_tassert (t : TypeId) (zero : V) (x : X) (e : Env) : Option V := match x.ev e with
  | some (.ifc t' v) => some (if t' = t then .tup [v, .b true] else .tup [zero, .b false])
  | some .ni => some (.tup [zero, .b false])
  | _ => none
def apureF : PureOp → Env → Option V
  | .mv x, e => apure_mv x e
  | .mvS x, e => apure_mvS x e
  | .pick c a b, e => apure_pick c a b e
  | .build zs parts, e => apure_build zs parts e
  | .nilCheck x, e => apure_nilCheck x e
  | .fieldAddr off x, e => apure_fieldAddr off x e
  | .idxAddrSl es x i, e => apure_idxAddrSl es x i e
  | .idxAddrArr len es x i, e => apure_idxAddrArr len es x i e
  | .field agg off n x, e => apure_field agg off n x e
  | .idxArr agg len es x i, e => apure_idxArr agg len es x i e
  | .idxStr x i, e => apure_idxStr x i e
  | .bin op x y, e => apure_bin op x y e
  | .eqB neg x y, e => apure_eqB neg x y e
  | .eqAgg neg kinds x y, e => apure_eqAgg neg kinds x y e
  | .isNil kd neg x y, e => apure_isNil kd neg x y e
  | .un op x, e => apure_un op x e
  | .conv k x, e => apure_conv k x e
  | .mkFunc f a b, e => apure_mkFunc f a b e
  | .slStr x lo hi, e => apure_slStr x lo hi e
  | .slSl es x lo hi mx, e => apure_slSl es x lo hi mx e
  | .lenS x, e => apure_lenS x e
  | .lenSl x, e => apure_lenSl x e
  | .lenC n, e => apure_lenC n e
  | .mkIface t x, e => apure_mkIface t x e
  | .extract i x, e => apure_extract i x e
  | .mxmn mx xs, e => apure_mxmn mx xs e
  | .tassert t zero x, e => apure_tassert t zero x e
theorem binIF_eq : binIF = binI := by funext op k a b; unfold binIF; rw [wrapF_eq]; cases op <;> rfl
theorem apureF_eq : apureF = apure := by
  funext o e
  cases o <;> first | rfl | (simp only [apureF, apure_bin, apure_un, apure_conv, binIF_eq, wrapF_eq, pow2F_eq]; rfl)
def aread_slArr (n : Nat) (es : Nat) (x : X) (lo : Option X) (hi : Option X) (e : Env) (H : AH) : Option V := match x.ev e with
  | some (.p (some (id, o))) => match H.get id, cut2 e n n lo hi with
    | some (.cells _ cs), some (l, h) => if o + n * es ≤ cs.length then some (.sl es (some (id, o + l * es)) (h - l) (n - l)) else none
    | _, _ => none
  | _ => none
def aread_ld1 (x : X) (e : Env) (H : AH) : Option V := match x.ev e with
  | some (.p (some (id, o))) => match H.get id with
    | some (.cells _ cs) => cs[o]?
    | _ => none
  | _ => none
def aread_ldN (n : Nat) (x : X) (e : Env) (H : AH) : Option V := match x.ev e with
  | some (.p (some (id, o))) => match ldCells H id o n with
    | some cs => some (.agg cs)
    | none => none
  | _ => none
def aread_lookup (ks : KS) (zero : V) (ok : Bool) (m : X) (k : X) (e : Env) (H : AH) : Option V := match m.ev e, k.ev e with
  | some (.m none), some k => if keyOk ks k then some (if ok then .tup [zero, .b false] else zero) else none
  | some (.m (some id)), some k => if keyOk ks k then match H.get id with
    | some (.map es) => match findV ks k es with
      | some (some (_, v)) => some (if ok then .tup [v, .b true] else v)
      | some none => some (if ok then .tup [zero, .b false] else zero)
      | none => none
    | _ => none else none
  | _, _ => none
def aread_lenM (x : X) (e : Env) (H : AH) : Option V := match x.ev e with
  | some (.m none) => some (.i .i64 0)
  | some (.m (some id)) => match H.get id with
    | some (.map es) => some (.i .i64 es.length)
    | _ => none
  | _ => none
def aread_b2s (x : X) (e : Env) (H : AH) : Option V := match x.ev e with
  | some (.sl _ none _ _) => some (.s [])
  | some (.sl 1 (some (id, o)) len _) => match ldCells H id o len with
    | some cs => match asBytes cs with
      | some l => some (.s l)
      | none => none
    | none => none
  | _ => none
def aread_peq (neg : Bool) (x : X) (y : X) (e : Env) (H : AH) : Option V := match x.ev e, y.ev e with
  | some (.p none), some (.p a) => some (.b (if neg then !a.isNone else a.isNone))
  | some (.p (some _)), some (.p none) => some (.b neg)
  | some (.p (some (i, o))), some (.p (some (j, u))) =>
    if i = j then some (.b (if neg then !(o == u) else o == u)) else
    match H.get i, H.get j with
    | some (.cells .rw _), some (.cells .rw _) => some (.b neg)
    | _, _ => none
  | _, _ => none
def areadF : ReadOp → Env → AH → Option V
  | .slArr n es x lo hi, e, H => aread_slArr n es x lo hi e H
  | .ld1 x, e, H => aread_ld1 x e H
  | .ldN n x, e, H => aread_ldN n x e H
  | .lookup ks zero ok m k, e, H => aread_lookup ks zero ok m k e H
  | .lenM x, e, H => aread_lenM x e H
  | .b2s x, e, H => aread_b2s x e H
  | .peq neg x y, e, H => aread_peq neg x y e H
theorem areadF_eq : areadF = aread := by funext o e H; cases o <;> rfl
def aalloc_newz (zs : List V) (e : Env) : Option (AO × (Nat → V)) := some (.cells .rw zs, fun id => .p (some (id, 0)))
def aalloc_box (x : X) (e : Env) : Option (AO × (Nat → V)) := match x.ev e with
  | some v => if v.cells.all V.one then some (.cells .rw v.cells, fun id => .p (some (id, 0))) else none
  | none => none
def aalloc_bslice (es : Nat) (len : Nat) (zs : List V) (parts : List (Nat × Nat × X)) (e : Env) : Option (AO × (Nat → V)) := match fillV e zs parts with
  | some cs => if cs.all V.one then some (.cells .rw cs, fun id => .sl es (some (id, 0)) len len) else none
  | none => none
def aalloc_mkslice (es : Nat) (bytes : Nat) (zs : List V) (l : X) (c : X) (e : Env) : Option (AO × (Nat → V)) := match l.ev e, c.ev e with
  | some (.i .i64 l), some (.i .i64 c) =>
    if 0 ≤ l ∧ l ≤ c ∧ c * bytes ≤ 140737488355328 ∧ c ≤ 9223372036854775807 then
      some (.cells .rw ((List.replicate c.toNat zs).flatten), fun id => .sl es (some (id, 0)) l.toNat c.toNat) else none
  | _, _ => none
def aalloc_mkmap  (e : Env) : Option (AO × (Nat → V)) := some (.map [], fun id => .m (some id))
def aalloc_s2b (x : X) (e : Env) : Option (AO × (Nat → V)) := match x.ev e with
  | some (.s l) => if l.length ≤ 9223372036854775807 then some (.cells .rws (l.map fun c => .i .u8 c.toNat), fun id => .sl 1 (some (id, 0)) l.length l.length) else none
  | _ => none
def aalloc_rangeS (x : X) (e : Env) : Option (AO × (Nat → V)) := match x.ev e with
  | some (.s l) => some (.iter l 0, fun id => .p (some (id, 0)))
  | _ => none
def aallocF : AllocOp → Env → Option (AO × (Nat → V))
  | .newz zs, e => aalloc_newz zs e
  | .newb T, _ => some (.bld T none 0, fun id => .p (some (id, 0)))
  | .box x, e => aalloc_box x e
  | .bslice es len zs parts, e => aalloc_bslice es len zs parts e
  | .mkslice es bytes zs l c, e => aalloc_mkslice es bytes zs l c e
  | .mkmap , e => aalloc_mkmap  e
  | .s2b x, e => aalloc_s2b x e
  | .rangeS x, e => aalloc_rangeS x e
theorem aallocF_eq : aallocF = aalloc := by funext o e; cases o <;> rfl
def aact_st (n : Nat) (a : X) (x : X) (e : Env) (H : AH) : Option (V × AH) := match a.ev e, x.ev e with
  | some (.p (some (id, o))), some v => match H.get id with
    | some (.cells md cs) => if md ≠ .ro ∧ v.cells.length = n ∧ v.cells.all V.one = true ∧ o + n ≤ cs.length then some (.tup [], H.set id (.cells md (splice cs o v.cells))) else none
    | _ => none
  | _, _ => none
def aact_append (es : Nat) (bytes : Nat) (x : X) (y : X) (e : Env) (H : AH) : Option (V × AH) := match x.ev e, y.ev e with
  | some (.sl es' a len cap), some y => match newCells H es y with
    | some (m, xs) =>
      if ((len + m) * bytes ≤ 140737488355328 ∧ len + m ≤ 9223372036854775807) then
      match a with
      | none => if m = 0 then some (.sl es' none 0 0, H) else some (.sl es (some (H.next, 0)) m m, H.alloc (.cells .rw xs))
      | some (id, o) =>
        if es' ≠ es then none else
        if m = 0 then some (.sl es (some (id, o)) len cap, H) else
        match H.get id with
        | some (.cells md cs) =>
          if md = .ro then none else
          if len + m ≤ cap then
            if o + (len + m) * es ≤ cs.length then some (.sl es (some (id, o)) (len + m) cap, H.set id (.cells md (splice cs (o + len * es) xs))) else none
          else if o + len * es = cs.length then
            some (.sl es (some (H.next, 0)) (len + m) (len + m), (H.set id .dead).alloc (.cells md (cs.drop o ++ xs)))
          else none
        | _ => none
      else none
    | none => none
  | _, _ => none
def aact_mapUpd (ks : KS) (m : X) (k : X) (v : X) (e : Env) (H : AH) : Option (V × AH) := match m.ev e, k.ev e, v.ev e with
  | some (.m (some id)), some k, some v => if keyOk ks k then match H.get id with
    | some (.map es) => match findV ks k es with
      | some (some (i, _)) => some (.tup [], H.set id (.map (es.set i (k, v))))
      | some none => some (.tup [], H.set id (.map (es ++ [(k, v)])))
      | none => none
    | _ => none else none
  | _, _, _ => none
def aact_del (ks : KS) (m : X) (k : X) (e : Env) (H : AH) : Option (V × AH) := match m.ev e, k.ev e with
  | some (.m none), some k => if keyOk ks k then some (.tup [], H) else none
  | some (.m (some id)), some k => if keyOk ks k then match H.get id with
    | some (.map es) => match findV ks k es with
      | some (some (i, _)) => some (.tup [], H.set id (.map (es.eraseIdx i)))
      | some none => some (.tup [], H)
      | none => none
    | _ => none else none
  | _, _ => none
def aact_clearM (m : X) (e : Env) (H : AH) : Option (V × AH) := match m.ev e with
  | some (.m none) => some (.tup [], H)
  | some (.m (some id)) => match H.get id with
    | some (.map _) => some (.tup [], H.set id (.map []))
    | _ => none
  | _ => none
def aact_clearSl (es : Nat) (zs : List V) (x : X) (e : Env) (H : AH) : Option (V × AH) := match x.ev e with
  | some (.sl _ none _ _) => some (.tup [], H)
  | some (.sl _ _ 0 _) => some (.tup [], H)
  | some (.sl es' (some (id, o)) len _) => match H.get id with
    | some (.cells md cs) => if es' = es ∧ md ≠ .ro ∧ o + len * es ≤ cs.length then some (.tup [], H.set id (.cells md (splice cs o ((List.replicate len zs).flatten)))) else none
    | _ => none
  | _ => none
def aact_copy (es : Nat) (x : X) (y : X) (e : Env) (H : AH) : Option (V × AH) := match x.ev e, y.ev e with
  | some (.sl es' a len _), some y => match newCells H es y with
    | some (m, xs) => match a with
      | none => some (.i .i64 0, H)
      | some (id, o) => match H.get id with
        | some (.cells md cs) =>
          if es' = es ∧ md ≠ .ro ∧ o + min m len * es ≤ cs.length then some (.i .i64 (min m len : Nat), H.set id (.cells md (splice cs o (xs.take (min m len * es))))) else none
        | _ => none
    | none => none
  | _, _ => none
def aact_nextS (x : X) (e : Env) (H : AH) : Option (V × AH) := match x.ev e with
  | some (.p (some (id, 0))) => match H.get id with
    | some (.iter l pos) =>
      if pos < l.length then
        some (.tup [.b true, .i .i64 pos, .i .i32 (Utf8.decode ⟨l.toArray⟩ pos).1], H.set id (.iter l (pos + (Utf8.decode ⟨l.toArray⟩ pos).2)))
      else some (.tup [.b false], H)
    | _ => none
  | _ => none
def aact_rangeM (x : X) (e : Env) (H : AH) : Option (V × AH) := match x.ev e with
  | some (.m none) => some (.p (some (H.next, 0)), H.alloc (.miter none))
  | some (.m (some id)) => match H.get id with
    | some (.map _) => some (.p (some (H.next, 0)), H.alloc (.miter (some id)))
    | _ => none
  | _ => none
def aact_nextM (x : X) (e : Env) (H : AH) : Option (V × AH) := match x.ev e with
  | some (.p (some (i, 0))) => match H.get i with
    | some (.miter none) => some (.tup [.b false], H)
    | some (.miter (some id)) => match H.get id with
      | some (.map []) => some (.tup [.b false], H)
      | _ => none
    | _ => none
  | _ => none
def aactF : ActOp → Env → AH → Option (V × AH)
  | .st n a x, e, H => aact_st n a x e H
  | .append es bytes x y, e, H => aact_append es bytes x y e H
  | .mapUpd ks m k v, e, H => aact_mapUpd ks m k v e H
  | .del ks m k, e, H => aact_del ks m k e H
  | .clearM m, e, H => aact_clearM m e H
  | .clearSl es zs x, e, H => aact_clearSl es zs x e H
  | .copy es x y, e, H => aact_copy es x y e H
  | .nextS x, e, H => aact_nextS x e H
  | .rangeM x, e, H => aact_rangeM x e H
  | .nextM x, e, H => aact_nextM x e H
  | .entryM _, _, _ => none
theorem aactF_eq : aactF = aact := by funext o e H; cases o <;> rfl
end Ram
