/- The contracts of the library for bytes.Buffer at this program: written by the kit's own lay-shelf and lay-plain, cut to what is used. -/
import Derived.Shelf.LaysM
import Derived.Shelf.Bytes.WriteAny
import Derived.Shelf.Bytes.Bytes
import Derived.Test.YtgfdpojpcpgddaaDoorProg
import Derived.KernelRfl
namespace Go.Proofs.YtgfdpojpcpgddaaDoor.Buf
open Go Go.Proofs Go.Shelf Go.RowKit
def laysM180_ren : Go.Shelf.Ren := ⟨fun | 180 => 39 | 251 => 49 | 252 => 50 | 181 => 51 | 184 => 52 | 290 => 53 | 324 => 54 | n => n, fun | 130 => 89 | 37 => 22 | 3 => 3 | 75 => 81 | 0 => 0 | 93 => 78 | 91 => 76 | 131 => 90 | 4 => 4 | 20 => 20 | 5 => 5 | 80 => 87 | 9 => 9 | n => n, fun | 14 => 0 | n => n⟩
theorem laysM180 : Go.Proofs.LaysM.n180 Tryd.prog laysM180_ren := {
  mixed := by kernel_rfl
  f180 := Tryd.func39.trans (congrArg some (by kernel_rfl))
  f181 := Tryd.func51.trans (congrArg some (by kernel_rfl))
  f184 := Tryd.func52.trans (congrArg some (by kernel_rfl))
  f251 := Tryd.func49.trans (congrArg some (by kernel_rfl))
  f252 := Tryd.func50.trans (congrArg some (by kernel_rfl))
  f290 := Tryd.func53.trans (congrArg some (by kernel_rfl))
  f324 := Tryd.func54.trans (congrArg some (by kernel_rfl))
  t0 := Tryd.underlying0
  a0 := Tryd.isAgg0
  z0 := Tryd.sizeOf0
  v0 := Tryd.zeroValue0
  t3 := Tryd.underlying3
  a3 := Tryd.isAgg3
  z3 := Tryd.sizeOf3
  v3 := Tryd.zeroValue3
  t4 := Tryd.underlying4
  a4 := Tryd.isAgg4
  z4 := Tryd.sizeOf4
  v4 := Tryd.zeroValue4
  t20 := Tryd.underlying20
  a20 := Tryd.isAgg20
  z20 := Tryd.sizeOf20
  v20 := Tryd.zeroValue20
  t37 := Tryd.underlying22
  a37 := Tryd.isAgg22
  z37 := Tryd.sizeOf22
  v37 := Tryd.zeroValue22
  t75 := Tryd.underlying81
  a75 := Tryd.isAgg81
  z75 := Tryd.sizeOf81
  v75 := Tryd.zeroValue81
  t91 := Tryd.underlying76
  a91 := Tryd.isAgg76
  z91 := Tryd.sizeOf76
  v91 := Tryd.zeroValue76
  t93 := Tryd.underlying78
  a93 := Tryd.isAgg78
  z93 := Tryd.sizeOf78
  v93 := Tryd.zeroValue78
  t130 := Tryd.underlying89
  a130 := Tryd.isAgg89
  z130 := Tryd.sizeOf89
  v130 := Tryd.zeroValue89
  t131 := Tryd.underlying90
  a131 := Tryd.isAgg90
  z131 := Tryd.sizeOf90
  v131 := Tryd.zeroValue90
  g14 := by kernel_rfl
  t5 := Tryd.underlying5
  a5 := Tryd.isAgg5
  z5 := Tryd.sizeOf5
  v5 := Tryd.zeroValue5
  t9 := Tryd.underlying9
  a9 := Tryd.isAgg9
  z9 := Tryd.sizeOf9
  v9 := Tryd.zeroValue9
  t80 := Tryd.underlying87
  a80 := Tryd.isAgg87
  z80 := Tryd.sizeOf87
  v80 := Tryd.zeroValue87
  i0 := by kernel_rfl
  i3 := by kernel_rfl
  i4 := by kernel_rfl
  i5 := by kernel_rfl
  i9 := by kernel_rfl
  i20 := by kernel_rfl
  i37 := by kernel_rfl
  i75 := by kernel_rfl
  i80 := by kernel_rfl
  i91 := by kernel_rfl
  i93 := by kernel_rfl
  i130 := by kernel_rfl
  i131 := by kernel_rfl
  m14 := by kernel_rfl }
def laysM183_ren : Go.Shelf.Ren := ⟨fun | 183 => 40 | n => n, fun | 130 => 89 | 37 => 22 | 0 => 0 | 93 => 78 | 3 => 3 | 5 => 5 | 91 => 76 | n => n, fun | n => n⟩
theorem laysM183 : Go.Proofs.LaysM.n183 Tryd.prog laysM183_ren := {
  mixed := by kernel_rfl
  f183 := Tryd.func40.trans (congrArg some (by kernel_rfl))
  t0 := Tryd.underlying0
  a0 := Tryd.isAgg0
  z0 := Tryd.sizeOf0
  v0 := Tryd.zeroValue0
  t3 := Tryd.underlying3
  a3 := Tryd.isAgg3
  z3 := Tryd.sizeOf3
  v3 := Tryd.zeroValue3
  t37 := Tryd.underlying22
  a37 := Tryd.isAgg22
  z37 := Tryd.sizeOf22
  v37 := Tryd.zeroValue22
  t93 := Tryd.underlying78
  a93 := Tryd.isAgg78
  z93 := Tryd.sizeOf78
  v93 := Tryd.zeroValue78
  t130 := Tryd.underlying89
  a130 := Tryd.isAgg89
  z130 := Tryd.sizeOf89
  v130 := Tryd.zeroValue89
  t5 := Tryd.underlying5
  a5 := Tryd.isAgg5
  z5 := Tryd.sizeOf5
  v5 := Tryd.zeroValue5
  t91 := Tryd.underlying76
  a91 := Tryd.isAgg76
  z91 := Tryd.sizeOf76
  v91 := Tryd.zeroValue76
  i0 := by kernel_rfl
  i3 := by kernel_rfl
  i5 := by kernel_rfl
  i37 := by kernel_rfl
  i91 := by kernel_rfl
  i93 := by kernel_rfl
  i130 := by kernel_rfl }
theorem Buffer_Bytes (B b : Nat) (bs : List Value) (w : World) (h : Lib.IsBuffer 78 5 B b bs w) :
    Calls Tryd.prog 40 #[.pointer (some ⟨b, 0, none⟩)] w fun e w' => ∃ v, e = .returned v ∧ w'.ownsRow B 5 1 v bs.length bs ∧ ∃ n, w' = w.drewN n := Any.Buffer_Bytes laysM183 B b bs w h
theorem Buffer_Write_any (B b : Nat) (bs cs : List Value) (a : Addr) (n c : Nat) (w : World) (h : Lib.IsBuffer 78 5 B b bs w) (hBw : B ≤ w.heap.size) (h1 : ∀ v ∈ bs, v.oneCell' = true) (hn : cs.length = n) (hab : a.block ≠ b) (hsrc : ∀ j v, cs[j]? = some v → w.cell? (a.add j) = some v) (h1c : ∀ v ∈ cs, v.oneCell' = true) (hlim : bs.length + n ≤ 140737488355328) :
    Calls Tryd.prog 39 #[.pointer (some ⟨b, 0, none⟩), .slice (some a) n c] w fun e w' => e = .returned (.tuple #[.int .i64 n, .nilIface]) ∧ Lib.IsBuffer 78 5 B b (bs ++ cs) w' ∧ Below B w w' ∧ Lib.OthersKept 5 (some b) w w' := Any.Buffer_Write_any laysM180 B b bs cs a n c w h hBw h1 hn hab hsrc h1c hlim
end Go.Proofs.YtgfdpojpcpgddaaDoor.Buf
