/- A part of the proof: contracts of functions, over the abstract machine. -/
import Derived.Test.YtjaammiblfndaaaGreatDoorFxm
import Derived.Test.YtjaammiblfndaaaGreatDoorZfL
import Derived.Test.YtjaammiblfndaaaGreatDoorProg
import Derived.Lib.Case
import Derived.Lib.Bytealg
import Derived.KernelRfl
set_option linter.unusedVariables false
set_option linter.unusedSimpArgs false
set_option linter.all false
/- The library's functions that the parser calls, taken over; as runs. -/
namespace Go.Proofs.YtjaammiblfndaaaGreatDoor
open Ram Go
open Go Go.Maps Go.WideElems Go.MapKept Go.ChangeShapes Go.WideShapes Go.Shelf
open Go.RowKit (Below)

variable {W0 : World} {H : AH}

/-- strings.ToLower, of plain text. -/
theorem f296 {l : List UInt8} (hs : l.length ≤ 140737488355328) (ha : ∀ b ∈ l, b.toNat < 128) : ACalls Tryz.prog W0 296 [.s l] H fun e H' => e = .ret (.s (Lib.toLowerA l)) ∧ H = H' := by
  refine grown_of ⟨_, Tryz.func296, by kernel_rfl, by kernel_rfl⟩ fun ι D w cs hv hR => ?_
  cases hv with
  | cons _ c _ _ r hn =>
    cases hn
    cases r with
    | s s =>
      exact (Tryz.strings_ToLower_ascii s w (by simpa using hs) fun j b hb => ha b (List.mem_of_getElem? hb)).mono fun e w' ⟨he, hB⟩ => ⟨_, he, rv_bytes _, hB⟩

/-- strings.ContainsRune, of a plain letter. -/
theorem f298 {l : List UInt8} {r : Int} (h0 : 0 ≤ r) (h1 : r < 128) : ACalls Tryz.prog W0 298 [.s l, .i .i32 r] H fun e H' => e = .ret (.b (decide (0 ≤ Lib.indexByte l r.toNat.toUInt8))) ∧ H = H' := by
  refine grown_of ⟨_, Tryz.func298, by kernel_rfl, by kernel_rfl⟩ fun ι D w cs hv hR => ?_
  cases hv with
  | cons _ c _ _ r hn =>
    cases hn with
    | cons _ c2 _ _ r2 hn =>
      cases hn
      cases r2
      cases r with
      | s s =>
        refine (Tryz.strings_ContainsRune_ascii s _ w h0 h1).mono fun e w' ⟨he, hw⟩ => ⟨_, he, .b _, ?_⟩
        subst hw
        exact Below.refl _ _

/-- maps.Keys. -/
theorem f240 {r : Option Nat} : ACalls Tryz.prog W0 240 [.m r] H fun e H' => e = .ret (.f (.func 308) [] [.p (some (H.next, 0))]) ∧ H' = H.alloc (.mbox r) :=
  keys_of ⟨_, Tryz.func240, by kernel_rfl, by kernel_rfl⟩ (fun mb W => callsIn_wide.1 (AnyZI.keys_in Tryz.keysA Fence.wide 5 trivial rfl mb W))

theorem sortsA (m : Nat) : AnyZI.SortsIn Tryz.prog Tryz.sortedA_ren Fence.wide m :=
  ⟨fun blk off cap ss W hH hblk hsz => callsIn_wide.2 (Tryz.slices_Sort_int blk off cap ss W hH hblk hsz),
   fun p cap W => callsIn_wide.2 (Tryz.slices_Sort_int_none p cap W)⟩

/-- slices.Sorted. -/
theorem f239 {bid id : Nat} {es : List (V × V)} {zs : List Int} (hbox : H.get bid = some (.mbox (some id))) (hm : H.get id = some (.map es)) (hzs : es.map (·.1) = zs.map (V.i .i64)) (hnd : zs.Nodup)
    (hwf : ∀ z ∈ zs, -9223372036854775808 ≤ z ∧ z ≤ 9223372036854775807) (hlen : zs.length < 1000000) :
    ACalls Tryz.prog W0 239 [.f (.func 308) [] [.p (some (bid, 0))]] H fun e H' => (zs = [] ∧ e = .ret (.sl 1 none 0 0) ∧ H' = H) ∨
      (zs ≠ [] ∧ e = .ret (.sl 1 (some (H.next, 0)) zs.length zs.length) ∧ H' = H.alloc (.cells .rw ((zs.mergeSort fun x y => decide (x ≤ y)).map (V.i .i64)))) := by
  refine sorted_of (k := 3) ⟨_, Tryz.func239, by kernel_rfl, by kernel_rfl⟩ Tryz.underlying3 ?_ hbox hm hzs hnd hwf hlen
  intro Bm b nn D0 R W hBm hcell hown hmax hbytes
  have hseq : SeqGives Fence.wide 2 Tryz.prog 308 #[.pointer (some ⟨Bm, 0, none⟩)] encZ (fun ss => ss.Perm (intKeys D0)) (Maps.size D0) W :=
    AnyZI.keys_gives (ρ := Tryz.keysA_ren) { Tryz.keysA with } Fence.wide _ trivial rfl (by omega) Bm b nn D0 W hBm hcell hown
  have cS := AnyZI.sorted_in Tryz.sortedA Fence.wide 5 trivial trivial trivial trivial rfl (by omega) (sortsA _) (enters_of Tryz.func160 (by kernel_rfl) rfl) 308 #[.pointer (some ⟨Bm, 0, none⟩)] trivial (enters_of Tryz.func308 (by kernel_rfl) rfl) _ _ hmax hbytes W hseq
  exact callsIn_wide.1 cS
noncomputable section
def C296 : RunF Tryz.prog 296 := runLower fun W0 l H h1 h2 => f296 h1 h2
def C298 : RunF Tryz.prog 298 := runRune fun W0 l r H h1 h2 => f298 h1 h2
def C240 : RunF Tryz.prog 240 := runKeys (c := 308) fun W0 r H => f240
def C239 : RunF Tryz.prog 239 := runSorted (c := 308) fun W0 H bid id es zs h1 h2 h3 h4 h5 h6 => f239 h1 h2 h3 h4 h5 h6
end
end Go.Proofs.YtjaammiblfndaaaGreatDoor
