/- A part of the proof: contracts of functions, over the abstract machine. -/
import Derived.Test.YtceamnigcimldaaDoorRc2
import Derived.Test.YtceamnigcimldaaDoorPoFn
import Derived.Test.YtceamnigcimldaaDoorPoL
import Derived.Test.YtceamnigcimldaaDoorPo1
set_option linter.unusedVariables false
set_option linter.unusedSimpArgs false
set_option linter.all false
/- Ports: the library, numbers, the check of a set of ports, marks. -/
namespace Go.Proofs.YtceamnigcimldaaDoor
open Ram Go Go.Proofs.Ports

variable {W0 : World} {H : AH}

abbrev Tab (W : World) : Prop := Lib.TabIs Tryd.prog W "internal/strconv.uint64pow10" .u64 Lib.pow10Tab

/-- strconv.Itoa. -/
theorem f29 (ht : Tab W0) {n : Int} (h0 : -9223372036854775808 ≤ n) (h1 : n ≤ 9223372036854775807) : ACalls Tryd.prog W0 29 [.i .i64 n] H fun e H' => e = .ret (.s (Lib.itoa n)) ∧ H = H' :=
  itoa_of ⟨_, Tryd.func29, by kernel_rfl, by kernel_rfl⟩ ht (fun n h0 h1 w ht => Tryd.strconv_Itoa n h0 h1 w ht) h0 h1

/-- strings.Join. -/
theorem f30 {v : V} {ls : List (List UInt8)} {sep : List UInt8} {md : Md} {F : Nat → Prop} (hs : SlV H md 1 v (ls.map sRow) F) (hl : (Lib.join ls sep).length ≤ 140737488355328) (hn : ls.length ≤ 140737488355328) :
    ACalls Tryd.prog W0 30 [v, .s sep] H fun e H' => e = .ret (.s (Lib.join ls sep)) ∧ H = H' :=
  join_of ⟨_, Tryd.func30, by kernel_rfl, by kernel_rfl⟩ (fun a c sep w => Tryd.strings_Join_none a c sep w) (fun bk o c xs sep w h1 h2 h3 h4 h5 => Tryd.strings_Join bk o c xs sep w h1 h2 h3 h4 h5) hs hl hn

/-- maps.Keys. -/
theorem f27 {r : Option Nat} : ACalls Tryd.prog W0 27 [.m r] H fun e H' => e = .ret (.f (.func 45) [] [.p (some (H.next, 0))]) ∧ H' = H.alloc (.mbox r) :=
  keys_of ⟨_, Tryd.func27, by kernel_rfl, by kernel_rfl⟩ (fun mb W => callsIn_wide.1 (AnyZI.keys_in Tryd.keysA Fence.wide 5 trivial rfl mb W))

theorem sortsA (m : Nat) : AnyZI.SortsIn Tryd.prog Tryd.sortedA_ren Fence.wide m :=
  ⟨fun blk off cap ss W hH hblk hsz => callsIn_wide.2 (Tryd.slices_Sort_int blk off cap ss W hH hblk hsz),
   fun p cap W => callsIn_wide.2 (Tryd.slices_Sort_int_none p cap W)⟩

/-- slices.Sorted. -/
theorem f26 {bid id : Nat} {es : List (V × V)} {zs : List Int} (hbox : H.get bid = some (.mbox (some id))) (hm : H.get id = some (.map es)) (hzs : es.map (·.1) = zs.map (V.i .i64)) (hnd : zs.Nodup)
    (hwf : ∀ z ∈ zs, -9223372036854775808 ≤ z ∧ z ≤ 9223372036854775807) (hlen : zs.length < 1000000) :
    ACalls Tryd.prog W0 26 [.f (.func 45) [] [.p (some (bid, 0))]] H fun e H' => (zs = [] ∧ e = .ret (.sl 1 none 0 0) ∧ H' = H) ∨
      (zs ≠ [] ∧ e = .ret (.sl 1 (some (H.next, 0)) zs.length zs.length) ∧ H' = H.alloc (.cells .rw ((zs.mergeSort fun x y => decide (x ≤ y)).map (V.i .i64)))) := by
  refine sorted_of (k := 3) ⟨_, Tryd.func26, by kernel_rfl, by kernel_rfl⟩ Tryd.underlying3 ?_ hbox hm hzs hnd hwf hlen
  intro Bm b nn D0 R W hBm hcell hown hmax hbytes
  have hseq : SeqGives Fence.wide 2 Tryd.prog 45 #[.pointer (some ⟨Bm, 0, none⟩)] encZ (fun ss => ss.Perm (intKeys D0)) (Maps.size D0) W :=
    AnyZI.keys_gives (ρ := Tryd.keysA_ren) { Tryd.keysA with } Fence.wide _ trivial rfl (by omega) Bm b nn D0 W hBm hcell hown
  have cS := AnyZI.sorted_in Tryd.sortedA Fence.wide 5 trivial trivial trivial trivial rfl (by omega) (sortsA _) (enters_of Tryd.func44 (by kernel_rfl) rfl) 45 #[.pointer (some ⟨Bm, 0, none⟩)] trivial (enters_of Tryd.func45 (by kernel_rfl) rfl) _ _ hmax hbytes W hseq
  exact callsIn_wide.1 cS
end Go.Proofs.YtceamnigcimldaaDoor
