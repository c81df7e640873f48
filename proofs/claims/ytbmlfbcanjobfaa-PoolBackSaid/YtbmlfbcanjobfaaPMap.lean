/- A pool's map: entries as keys. -/
import Derived.Test.YtbmlfbcanjobfaaPWalk7
import Derived.Test.YtbmlfbcanjobfaaMap
namespace Go.Proofs.Ytbmlfbcanjobfaa.Pool
open Go Go.Proofs.Ytbmlfbcanjobfaa Go.Proofs.Ytbmlfbcanjobfaa.Eng Go.Proofs
set_option maxRecDepth 10000

def entFs : List Field := match T 67 with
  | some ti => match ti.desc with
    | .struct fs => fs.toList
    | _ => []
  | none => []
theorem uEnt : Try.prog.underlying 67 = some (.struct entFs.toArray) := by kernel_rfl
theorem ptypes : ∃ m, Try.prog.types.size = m + 1 := ⟨Try.prog.types.size - 1, by
  have : 0 < Try.prog.types.size := by decide +kernel
  omega⟩
theorem lits_int (m : Nat) {z : Int} (h : I64 z) : Try.prog.keyLits (m + 1) 3 [.int .i64 z] = some [.int .i64 z] := by
  have hw : (Lit.int .i64 z).wf = true := by
    obtain ⟨h1, h2⟩ := h
    simp [Lit.wf, IntKind.min, IntKind.max, IntKind.signed, IntKind.bits]
    omega
  simp [Program.keyLits, uInt, hw]
theorem lits_str (m : Nat) {s : List UInt8} (h : s.length ≤ 9223372036854775807) : ∃ q, Try.prog.keyLits (m + 1) 9 [strV s] = some q := by
  refine ⟨[.string s], ?_⟩
  have hw : (ByteArray.mk s.toArray).size ≤ maxLen := by rw [size_str]; unfold maxLen; omega
  simp [Program.keyLits, uStr, strV, hw]
theorem keyOf_ent {x : Ent} (h : EntOk x) : ∃ q, keyOf Try.prog 67 (entV x) = some q := by
  obtain ⟨m, hm⟩ := ptypes
  obtain ⟨q, hq⟩ := lits_str m h.text
  have hkt : Try.prog.keyType 67 = true := by kernel_rfl
  have hf : (entV x).formed Try.prog 67 = true := by
    simp only [Value.formed, entV, uEnt]
    rw [show Try.prog.cellsOf 67 = 5 from cEnt]
    rfl
  have e1 := lits_int m h.tag
  have e3 := lits_int m h.n
  have e4 := lits_int m h.a
  have e5 := lits_int m h.b
  refine ⟨.string (keyBytes ([.int .i64 x.tag] ++ q ++ [.int .i64 x.n] ++ [.int .i64 x.a] ++ [.int .i64 x.b])), ?_⟩
  have hl : Try.prog.keyLits (Try.prog.types.size + 1) 67 (entV x).cells.toList = some ([.int .i64 x.tag] ++ q ++ [.int .i64 x.n] ++ [.int .i64 x.a] ++ [.int .i64 x.b]) := by
    rw [hm]
    have hc : (entV x).cells.toList = entC x := rfl
    rw [hc]
    have hn : (entFs.toArray.all fun f => f.name != "_") = true := by kernel_rfl
    have hlen : (entC x).length = Try.prog.cellsOf 67 := by rw [cEnt]; rfl
    have hcond : (entC x).length = Try.prog.cellsOf 67 ∧ (entFs.toArray.all fun f => f.name != "_") = true := ⟨hlen, hn⟩
    have hstep : Try.prog.keyLits (m + 1 + 1) 67 (entC x) = (entFs.mapM fun f => Try.prog.keyLits (m + 1) f.type (((entC x).drop f.offset).take (Try.prog.cellsOf f.type))).map List.flatten := by
      conv => lhs; unfold Program.keyLits
      rw [uEnt]
      simp only
      rw [if_pos hcond]
    rw [hstep]
    have hfs : entFs.map (fun f => (f.type, f.offset)) = [(3, 0), (9, 1), (3, 2), (3, 3), (3, 4)] := by kernel_rfl
    have hmm : (entFs.mapM fun f => Try.prog.keyLits (m + 1) f.type (((entC x).drop f.offset).take (Try.prog.cellsOf f.type))) = ((entFs.map (fun f => (f.type, f.offset))).mapM fun p : TypeId × Nat => Try.prog.keyLits (m + 1) p.1 (((entC x).drop p.2).take (Try.prog.cellsOf p.1))) := by
      rw [List.mapM_map]
      rfl
    rw [hmm, hfs]
    simp only [List.mapM_cons, List.mapM_nil, cInt, cStr]
    have d0 : ((entC x).drop 0).take 1 = [.int .i64 x.tag] := rfl
    have d1 : ((entC x).drop 1).take 1 = [strV x.text] := rfl
    have d2 : ((entC x).drop 2).take 1 = [.int .i64 x.n] := rfl
    have d3 : ((entC x).drop 3).take 1 = [.int .i64 x.a] := rfl
    have d4 : ((entC x).drop 4).take 1 = [.int .i64 x.b] := rfl
    rw [d0, d1, d2, d3, d4, e1, hq, e3, e4, e5]
    simp
  unfold keyOf
  rw [uEnt]
  simp only
  rw [if_pos (by rw [hkt, hf]; rfl), hl]
  rfl
def entK (v : Value) : Prop := ∃ l, keyOf Try.prog 67 v = some l
theorem entKey {x : Ent} (h : EntOk x) : entK (entV x) := keyOf_ent h
theorem entLaw : KeyL Try.prog 67 entK := keyL_deep (deep_law (m := 3) (by decide) (by kernel_rfl) (by kernel_rfl) (by rw [uEnt]))
theorem uMap : Try.prog.underlying 70 = some (.map 67 3) := by kernel_rfl
theorem entV_inj {x y : Ent} (h : entV x = entV y) : x = y := by
  unfold entV strV at h
  simp only [Value.agg.injEq, Array.mk.injEq, List.cons.injEq, Value.int.injEq, Value.string.injEq, ByteArray.mk.injEq, true_and, and_true] at h
  obtain ⟨h1, h2, h3, h4, h5⟩ := h
  exact (Ent.iff x y).1 ⟨h1, h2, h3, h4, h5⟩
end Go.Proofs.Ytbmlfbcanjobfaa.Pool
