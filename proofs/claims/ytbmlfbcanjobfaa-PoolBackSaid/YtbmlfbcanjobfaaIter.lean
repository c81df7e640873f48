/- A string gone through, rune by rune. -/
import Derived.Test.YtbmlfbcanjobfaaMem
import Derived.Laws.RangeAny
namespace Go.Proofs.Ytbmlfbcanjobfaa.Eng
open Go
section
variable {P : Program}
theorem New.iter (w : World) (s : ByteArray) (p : Nat) : New w (w.iter s p) := New.alloc w _
theorem rangeS_ {o : Oper} {x : Operand} {t : TypeId} {s : ByteArray} {fr : Fr} {w : World} {K : Fr → World → Prop} (ho : o.op = .range t x) (ht : P.underlying t = some .string) (hx : ev fr x = .string s)
    (k : K (putF fr o.dst (.pointer (some ⟨w.heap.size, 0, none⟩))) (w.iter s 0)) : raw P o fr w K := by
  refine raw_value ?_ k
  simp [execOp, ho, hx, run_range_string w t s ht]
theorem nextS_ {o : Oper} {x : Operand} {s : ByteArray} {fr : Fr} {w : World} {pos : Nat} {K : Fr → World → Prop} (ho : o.op = .next x true) (hx : ev fr x = .pointer (some ⟨w.heap.size, 0, none⟩))
    (k : pos < s.size → K (putF fr o.dst (.tuple #[.bool true, .int .i64 pos, .int .i32 (Utf8.decode s pos).1])) (w.iter s (pos + (Utf8.decode s pos).2)))
    (k2 : ¬ pos < s.size → K (putF fr o.dst (.tuple #[.bool false])) (w.iter s pos)) : raw P o fr (w.iter s pos) K := by
  by_cases h : pos < s.size
  · refine raw_value ?_ (k h)
    simp [execOp, ho, hx, run_next_any w s pos o.type h]
  · refine raw_value ?_ (k2 h)
    simp [execOp, ho, hx, run_next_end w s pos o.type h]
end
end Go.Proofs.Ytbmlfbcanjobfaa.Eng
